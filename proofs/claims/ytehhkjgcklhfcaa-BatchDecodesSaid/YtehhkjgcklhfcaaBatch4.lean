/-
  batch.batch: what a Commit block makes of the Puts ahead of it.
-/
import Derived.Test.YtehhkjgcklhfcaaBatch3
namespace Go.Proofs.Ytehhkjgcklhfcaa
set_option linter.unusedVariables false
set_option linter.unusedSimpArgs false

theorem PutsR.cut {B : Nat → Prop} {h : Hp} {s : Sl} {P : List PutD} (p : PutsR B h s P) {lo hi m : Nat} (h1 : lo ≤ hi) (h2 : hi ≤ s.len) (h3 : hi ≤ m) : PutsR B h (cutSl s lo hi m 2) ((P.drop lo).take (hi - lo)) := by
  obtain ⟨L, rfl, r, hb, he⟩ := p
  refine ⟨(L.drop lo).take (hi - lo), by simp [List.map_drop, List.map_take], ?_, fun a ha h0 => ?_, fun x hx => he x (List.mem_of_mem_drop (List.mem_of_mem_take hx))⟩
  · have := r.cut h1 h2 h3
    rw [c2_drop, c2_take] at this
    simpa [List.map_drop, List.map_take] using this
  · have hs0 : s.len ≠ 0 := by rw [cut_len] at h0; omega
    simp only [cutSl] at ha
    split at ha
    · exact hb a ha hs0
    · obtain ⟨a', ha', rfl⟩ := Option.map_eq_some_iff.1 ha
      rw [add_block]; exact hb a' ha' hs0

/-! ### As plain functions -/
def bN (bs : List UInt8) : Nat := (bs.getD 8 0).toNat
def bFirst (bs : List UInt8) : Nat := min (leN (bs.take 8)) 4611686018427387904
def bSt (bs : List UInt8) (j : Nat) : Nat := (bs.getD (9 + 2 * j) 0).toNat + 256 * (bs.getD (9 + 2 * j + 1) 0).toNat
def bCt (bs : List UInt8) (j : Nat) : Nat := (bs.getD (9 + 2 * bN bs + j) 0).toNat
def tmS (bs : List UInt8) : Nat → Nat
  | 0 => bFirst bs
  | j + 1 => tmS bs j + bSt bs j
def offS (bs : List UInt8) : Nat → Nat
  | 0 => 0
  | j + 1 => offS bs j + bCt bs j
def TOf (bs : List UInt8) (P : List PutD) (n : Nat) : List TxD := (List.range n).map fun j => ((tmS bs (j + 1) : Int), (P.drop (offS bs j)).take (bCt bs j))
theorem TOf_len (bs : List UInt8) (P : List PutD) (n : Nat) : (TOf bs P n).length = n := by simp [TOf]
theorem TOf_succ (bs : List UInt8) (P : List PutD) (n : Nat) : TOf bs P (n + 1) = TOf bs P n ++ [((tmS bs (n + 1) : Int), (P.drop (offS bs n)).take (bCt bs n))] := by unfold TOf; rw [List.range_succ, List.map_append]; rfl
theorem TOf_pt (bs : List UInt8) (P : List PutD) (n j : Nat) (hj : j < n) : pt (TOf bs P n) j = (P.drop (offS bs j)).take (bCt bs j) := by simp [pt, TOf, hj]
theorem TOf_tm (bs : List UInt8) (P : List PutD) (n j : Nat) (hj : j < n) : tm (TOf bs P n) j = (tmS bs (j + 1) : Int) := by simp [tm, TOf, hj]
theorem offS_mono (bs : List UInt8) {a b : Nat} (h : a ≤ b) : offS bs a ≤ offS bs b := by
  induction b with
  | zero => have : a = 0 := by omega
            subst this; exact Nat.le_refl _
  | succ b ih =>
    by_cases e : a = b + 1
    · subst e; exact Nat.le_refl _
    · have := ih (by omega); simp only [offS]; omega
theorem u8lt (x : UInt8) : x.toNat < 256 := UInt8.toNat_lt x
theorem bSt_lt (bs : List UInt8) (j : Nat) : bSt bs j < 65536 := by
  have h1 := u8lt (bs.getD (9 + 2 * j) 0)
  have h2 := u8lt (bs.getD (9 + 2 * j + 1) 0)
  unfold bSt; omega
theorem tmS_le (bs : List UInt8) (j : Nat) : tmS bs j ≤ 4611686018427387904 + j * 65536 := by
  induction j with
  | zero => simp only [tmS, bFirst]; omega
  | succ j ih => have := bSt_lt bs j; simp only [tmS]; omega
structure MadeP (seq : Int) (bs : List UInt8) (P : List PutD) : Prop where
  len : bs.length = 9 + 3 * bN bs
  first : bSt bs 0 = 0
  off : offS bs (bN bs) = P.length
  check : CheckP seq (TOf bs P (bN bs))
theorem or8 {a b : Nat} (ha : a < 256) (hb : b < 256) : iOr .i64 (iConv .i64 (a : Int)) (iShl .i64 (iConv .i64 (b : Int)) (8 : Int)) = ((a + 256 * b : Nat) : Int) := by
  rw [iConv64 (by omega), iConv64 (by omega)]
  have hs : iShl .i64 (b : Int) (8 : Int) = ((b * 2 ^ 8 : Nat) : Int) := by
    unfold iShl
    have : min (8 : Int).toNat IntKind.i64.bits = 8 := by decide
    rw [this]
    have : (b : Int) * 2 ^ 8 = ((b * 2 ^ 8 : Nat) : Int) := by rw [Int.natCast_mul]; rfl
    rw [this]
    exact IntWalk.i64_in _ (by omega)
  rw [hs]
  unfold iOr
  rw [BitVec.ofInt_natCast, BitVec.ofInt_natCast, BitVec.toNat_or, BitVec.toNat_ofNat, BitVec.toNat_ofNat, Nat.mod_eq_of_lt (by simp only [IntKind.bits]; omega), Nat.mod_eq_of_lt (by simp only [IntKind.bits]; omega), or_add (by omega)]
  rw [show a + b * 2 ^ 8 = a + 256 * b by omega]
  exact IntWalk.i64_in _ (by omega)

/-- what batch answers. -/
def BatA (B : Nat → Prop) (h : Hp) (k s lb : Int) (bs : List UInt8) (P : List PutD) (r : Value) (h' : Hp) : Prop :=
  Ext h h' ∧ ∃ (num : Int) (t : Sl) (ok : Bool), r = .tuple #[.agg #[.int .i64 num, .slice t.base t.len t.cap], .bool ok] ∧ (ok = true ↔ k = 2 ∧ lb = P.length ∧ MadeP s bs P) ∧
    (ok = true → num = s ∧ TxsR (fun b => B b ∨ h.size ≤ b ∧ b < h'.size) h' t (TOf bs P (bN bs)))
theorem batch_spec {B : Nat → Prop} {h : Hp} {u p : Sl} {P : List PutD} (k e s lb : Int) (bs : List UInt8) (ru : k = 2 → Rd 1 h u (bs.map bv)) (hbl : bs.length ≤ 1000) (rp : PutsR B h p P) (hB : ∀ b, B b → b < h.size) (hP : P.length ≤ 1000000) :
    HCalls Try.prog fn_batch_batch #[.agg #[.int .i64 k, .int .i64 e, .int .i64 s, .int .i64 lb, .slice u.base u.len u.cap], .slice p.base p.len p.cap] h (BatA B h k s lb bs P) := by
  apply batch_batch_vc
  unfold vcbatch_batch
  have hpl := rp.len
  intro h1 h2
  have e1 : Ext h h1 := alc_ext _ _ _
  have e2 : Ext h1 h2 := alc_ext _ _ _
  have e02 := e1.trans e2
  have s1 : h1.size = h.size + 1 := size_alc _ _ _
  have s2 : h2.size = h1.size + 1 := size_alc _ _ _
  have rf : Row h2 h.size (blkV k e s lb u) := (Row.alc h _ _).ext e2
  have rb : Row h2 h1.size [.int .i64 (0 : Int), .slice Sl.nil.base Sl.nil.len Sl.nil.cap] := Row.alc h1 _ _
  -- giving up
  have no : ∀ {h' : Hp} {n : Int} {t : Sl}, Ext h h' → Row h' h1.size [.int .i64 n, .slice t.base t.len t.cap] → ¬ (k = 2 ∧ lb = P.length ∧ MadeP s bs P) →
      ∃ c6 : Int, ∃ c7 : Sl, hcell h' (nw h1) = some (.int .i64 c6) ∧ hcell h' ((nw h1).add 1) = some (.slice c7.base c7.len c7.cap) ∧
      stCells (nw h1) 0 [.int .i64 c6, .slice c7.base c7.len c7.cap] h' fun vh2 =>
      ∃ x : Int, ∃ x1 : Sl, hcell vh2 (nw h1) = some (.int .i64 x) ∧ hcell vh2 ((nw h1).add 1) = some (.slice x1.base x1.len x1.cap) ∧
      BatA B h k s lb bs P (.tuple #[.agg #[.int .i64 x, .slice x1.base x1.len x1.cap], .bool false]) vh2 := fun {h' n t} e' r' hn =>
    r'.get2s (r'.same (by simp [cellOk]) (r'.get2s ⟨e', n, t, false, rfl, ffIff hn, fun h => by cases h⟩))
  refine ⟨k, rf.get0 rfl, IfB.ne (fun hk => no e02 rb fun g => hk g.1) (fun hk => ⟨lb, rf.get rfl, IfB.ne (fun hlb => no e02 rb fun g => hlb (by rw [hpl]; exact g.2.1)) (fun hlb => ⟨u, rf.get rfl, ?_⟩)⟩)⟩
  have ru0 := ru hk
  have hul := ru0.lenB
  have ru2 := ru0.ext e02
  have hN := u8lt (bs.getD 8 0)
  refine IfB.dec (fun h9 => no e02 rb fun g => by have := g.2.2.len; omega) (fun h9 => ⟨u, rf.get rfl, ?_⟩)
  refine ixB ru2.rd hul 8 rfl (by omega) ?_
  have en : bs[8]'(by omega) = bs.getD 8 0 := by simp [List.getD]; rw [List.getElem?_eq_getElem (by omega)]; rfl
  rw [en]
  have eN : iConv .i64 ((bs.getD 8 0).toNat : Int) = (bN bs : Int) := by rw [iConv64 (by omega)]; rfl
  have hN' : bN bs < 256 := hN
  rw [eN]
  have e3 : iAdd .i64 (9 : Int) (iMul .i64 (3 : Int) (bN bs : Int)) = ((9 + 3 * bN bs : Nat) : Int) := by rw [iMul64 (by omega), iAdd64 (by omega)]; push_cast; rfl
  have e22 : iAdd .i64 (9 : Int) (iMul .i64 (2 : Int) (bN bs : Int)) = ((9 + 2 * bN bs : Nat) : Int) := by rw [iMul64 (by omega), iAdd64 (by omega)]; push_cast; rfl
  rw [e3, e22]
  refine ⟨u, rf.get rfl, IfB.ne (fun hl3 => no e02 rb fun g => by have := g.2.2.len; omega) (fun hl3 => ⟨u, rf.get rfl, ?_⟩)⟩
  have hlen : bs.length = 9 + 3 * bN bs := by omega
  refine (Get64_spec ru2).mono ?_
  rintro _ h3 ⟨rfl, rfl⟩
  rw [getR_of (n := 8) (by omega)]
  have hcap := ru0.cap
  refine ⟨_, _, rfl, u, rf.get rfl, by omega, by omega, by omega, by omega, u, rf.get rfl, by omega, by omega, by omega, by omega, s, rf.get rfl, ?_⟩
  obtain ⟨ok4, r4, x4, s4⟩ := rb.set0 (by simp) (.int .i64 s)
  refine ⟨ok4, ?_⟩
  have e24 : Ext h1 (hset h2 ⟨h1.size, 0, none⟩ (.int .i64 s)) := ⟨by rw [s4]; omega, fun b hb => by rw [x4 b (by omega), e2.block b hb]⟩
  have hnw : nw h1 = ⟨h1.size, 0, none⟩ := rfl
  rw [hnw]
  generalize hset h2 ⟨h1.size, 0, none⟩ (.int .i64 s) = h4 at *
  have e4 := e1.trans e24
  have r4 : Row h4 h1.size [.int .i64 s, .slice Sl.nil.base Sl.nil.len Sl.nil.cap] := r4
  have hfirst : iConv .i64 (if (4611686018427387904 : Int) < (leN (bs.take 8) : Int) then (4611686018427387904 : Int) else (leN (bs.take 8) : Int)) = (bFirst bs : Int) := by
    unfold bFirst
    split
    · rw [iConv64 (by omega), Nat.min_eq_right (by omega)]; rfl
    · rw [iConv64 (by omega), Nat.min_eq_left (by omega)]
  have rst : ∀ {h' : Hp}, Ext h h' → Rd 1 h' (cutSl u (9 : Int) ((9 + 2 * bN bs : Nat) : Int) (u.cap : Int) 1) (((bs.drop 9).take (2 * bN bs)).map bv) := fun e' => by
    have := (ru0.ext e').cutB (lo := 9) (hi := 9 + 2 * bN bs) (m := u.cap) (by omega) (by omega) (by omega)
    rwa [show 9 + 2 * bN bs - 9 = 2 * bN bs by omega] at this
  have rct : ∀ {h' : Hp}, Ext h h' → Rd 1 h' (cutSl u ((9 + 2 * bN bs : Nat) : Int) (u.len : Int) (u.cap : Int) 1) ((bs.drop (9 + 2 * bN bs)).map bv) := fun e' => (ru0.ext e').cutD (by omega)
  have gst : ∀ j, j < 2 * bN bs → ∀ hh, (((bs.drop 9).take (2 * bN bs))[j]'hh) = bs.getD (9 + j) 0 := fun j hj hh => by
    rw [List.getElem_take, List.getElem_drop]; simp [List.getD, List.getElem?_eq_getElem (show 9 + j < bs.length by omega)]
  have gct : ∀ j, j < bN bs → ∀ hh, ((bs.drop (9 + 2 * bN bs))[j]'hh) = bs.getD (9 + 2 * bN bs + j) 0 := fun j hj hh => by
    rw [List.getElem_drop]; simp [List.getD, List.getElem?_eq_getElem (show 9 + 2 * bN bs + j < bs.length by omega)]
  have lst : ((bs.drop 9).take (2 * bN bs)).length = 2 * bN bs := by simp; omega
  have lct : (bs.drop (9 + 2 * bN bs)).length = bN bs := by simp; omega
  refine ⟨fun ps time i m h' => ∃ (j : Nat) (t : Sl) (L : List ((Int × Sl) × List PutD)), i = j ∧ m + j = bN bs ∧ Ext h h' ∧ h2.size ≤ h'.size ∧ PutsR B h' ps (P.drop (offS bs j)) ∧ offS bs j ≤ P.length ∧ time = (tmS bs j : Int) ∧ (0 < j → bSt bs 0 = 0) ∧ Row h' h1.size [.int .i64 s, .slice t.base t.len t.cap] ∧ OwnTxs h2.size B h' t L ∧ plT L = TOf bs P j, bN bs,
    ⟨0, Sl.nil, [], rfl, rfl, e4, by omega, by simpa [offS] using rp.ext e4, Nat.zero_le _, hfirst, fun h => by omega, r4, OwnTxs.nil _ _ _, rfl⟩, ?_⟩
  rintro _ ps _ _ m h5 ⟨j, t, L, rfl, hm, e5, s5, pr, hoff, rfl, hst0, r5, ot, hL⟩
  have hpsl := pr.len
  rw [List.length_drop] at hpsl
  have hpcap : ps.len ≤ ps.cap := by obtain ⟨_, _, rr, _⟩ := pr; exact rr.cap
  have hLl : L.length = j := by have := congrArg List.length hL; simpa [plT, TOf] using this
  refine IfB.dec (fun hlt => ?_) (fun hge => ?_)
  · have hj : j < bN bs := by omega
    have e2j : iMul .i64 (2 : Int) (j : Int) = ((2 * j : Nat) : Int) := by rw [iMul64 (by omega)]; push_cast; rfl
    have e2j1 : iAdd .i64 ((2 * j : Nat) : Int) (1 : Int) = ((2 * j + 1 : Nat) : Int) := by rw [iAdd64 (by omega)]; push_cast; rfl
    rw [e2j, e2j1]
    refine ixB (rst e5).rd (rst e5).lenB (2 * j) rfl (by omega) ?_
    refine ixB (rst e5).rd (rst e5).lenB (2 * j + 1) rfl (by omega) ⟨by omega, ?_⟩
    refine ixB (rct e5).rd (rct e5).lenB j rfl (by omega) ?_
    rw [gst (2 * j) (by omega), gst (2 * j + 1) (by omega), gct j hj]
    have hct : iConv .i64 ((bs.getD (9 + 2 * bN bs + j) 0).toNat : Int) = (bCt bs j : Int) := by
      have := u8lt (bs.getD (9 + 2 * bN bs + j) 0)
      rw [iConv64 (by omega)]; rfl
    have hctl : bCt bs j < 256 := u8lt _
    rw [hct, or8 (u8lt _) (u8lt _)]
    have hst : (bs.getD (9 + 2 * j) 0).toNat + 256 * (bs.getD (9 + (2 * j + 1)) 0).toNat = bSt bs j := rfl
    rw [hst]
    have htm := tmS_le bs j
    have hsl := bSt_lt bs j
    have eT : iAdd .i64 (tmS bs j : Int) (bSt bs j : Int) = (tmS bs (j + 1) : Int) := by rw [iAdd64 (by omega)]; simp [tmS]
    rw [eT]
    have hofS : offS bs (j + 1) = offS bs j + bCt bs j := rfl
    refine ⟨fun h' => h' = h5 ∧ bCt bs j ≤ ps.len ∧ bSt bs 0 = 0, ?_, ?_⟩
    · refine IfB.dec (fun hbig => no e5 r5 fun g => ?_) (fun hfit => ?_)
      · have h1 := g.2.2.off
        have h2 := offS_mono bs (show j + 1 ≤ bN bs by omega)
        omega
      refine IfB.eq (fun h0 => ?_) (fun hne => ⟨rfl, by omega, hst0 (by omega)⟩)
      refine ixB (rst e5).rd (rst e5).lenB 0 rfl (by omega) ?_
      refine ixB (rst e5).rd (rst e5).lenB 1 rfl (by omega) ?_
      rw [gst 0 (by omega), gst 1 (by omega)]
      have o0 := u8lt (bs.getD (9 + 0) 0)
      have o1 := u8lt (bs.getD (9 + 1) 0)
      rw [iOr_nat u8s (by simpa [IntKind.bits] using o0) (by simpa [IntKind.bits] using o1)]
      have hz : (bs.getD (9 + 0) 0).toNat ||| (bs.getD (9 + 1) 0).toNat = 0 ↔ bSt bs 0 = 0 := by
        rw [Nat.or_eq_zero_iff]
        show _ ↔ (bs.getD (9 + 0) 0).toNat + 256 * (bs.getD (9 + 1) 0).toNat = 0
        omega
      exact IfB.ne (fun hnz => no e5 r5 fun g => hnz (by rw [hz.2 g.2.2.first]; rfl)) (fun hzz => ⟨rfl, by omega, hz.1 (by omega)⟩)
    rintro _ h6 ⟨rfl, hfit, hst0'⟩
    refine ⟨t, r5.get rfl, by omega, by omega, by omega, by omega, ?_⟩
    intro h7
    refine ⟨alc_ext _ _ _, ?_⟩
    have pc := pr.cut (lo := 0) (hi := bCt bs j) (m := bCt bs j) (by omega) hfit (Nat.le_refl _)
    rw [Nat.sub_zero, List.drop_zero] at pc
    refine ot.push rfl (fun b hb => by have := hB b hb; have := e5.size; omega) s5 pc (by omega) fun r h8 o8 l8 k8 x8 b8 => ?_
    have hne : ∀ a, t.base = some a → h1.size ≠ a.block := fun a ha e => by have := (ot.own.lt ha).1; omega
    have r8 : Row h8 h1.size [.int .i64 s, .slice t.base t.len t.cap] := r5.eq (x8 _ (by have := r5.lt; omega) hne)
    obtain ⟨ok9, r9, x9, s9⟩ := r8.set (i := 1) (by simp) (.slice r.base r.len r.cap)
    refine ⟨ok9, ?_⟩
    generalize hset h8 ((⟨h1.size, 0, none⟩ : Addr).add 1) (.slice r.base r.len r.cap) = h9 at *
    have r9 : Row h9 h1.size [.int .i64 s, .slice r.base r.len r.cap] := r9
    have k8s := k8.size
    have eqB : ∀ b, B b → h9[b]? = h6[b]? := fun b hb => by
      have hbb := hB b hb
      rw [x9 b (by omega), k8.block b (by omega)]
    refine ⟨by omega, by omega, by omega, by omega, m - 1, by omega, j + 1, r, L ++ [(((tmS bs (j + 1) : Int), cutSl ps ((0 : Nat) : Int) (bCt bs j : Int) (bCt bs j : Int) 2), (P.drop (offS bs j)).take (bCt bs j))], by rw [iAdd64 (by omega)]; push_cast; rfl, by omega, ⟨by have := e5.size; omega, fun b hb => by rw [x9 b (by omega), k8.block b (by omega), e5.block b hb]⟩, by omega, ?_, by omega, rfl, fun _ => hst0', r9, ?_, ?_⟩
    · have pd := pr.cut (lo := bCt bs j) (hi := ps.len) (m := ps.cap) hfit (Nat.le_refl _) hpcap
      rw [List.drop_drop, List.take_of_length_le (by rw [List.length_drop]; omega)] at pd
      exact pd.eq eqB
    · refine ⟨o8.own.eq fun a ha => x9 _ ?_, fun x hx => (o8.each x hx).eq fun b hb => x9 b (by have := hB b hb; omega), o8.apart⟩
      have := (o8.own.lt ha).1; omega
    · rw [TOf_succ, ← hL]; simp [plT]
  · have hj : j = bN bs := by omega
    subst hj
    refine r5.get2s ?_
    have txs : TxsR (fun b => B b ∨ h.size ≤ b ∧ b < h5.size) h5 t (TOf bs P (bN bs)) := by
      have := ot.txs (B' := fun b => B b ∨ h.size ≤ b ∧ b < h5.size) (fun b hb => .inl hb) (fun b h1 h2 => .inr ⟨by omega, h2⟩)
      rwa [hL] at this
    refine IfB.eq (fun h0 => ?_) (fun hne => ?_)
    · refine r5.get2s ?_
      refine (Check_spec s txs fun j' => ?_).mono ?_
      · by_cases hj' : j' < bN bs
        · rw [TOf_pt _ _ _ _ hj']; simp; omega
        · unfold pt; rw [List.getD_eq_getElem?_getD, List.getElem?_eq_none (by rw [TOf_len]; omega)]; simp
      rintro _ h6 ⟨e6, c, rfl, hc, _⟩
      refine ⟨c, rfl, e6, (r5.ext e6).same (by simp [cellOk]) ⟨e6, (r5.ext e6).get2s ⟨e5.trans e6, s, t, _, rfl, ?_, fun _ => ⟨rfl, ?_⟩⟩⟩⟩
      · rw [beq_iff_eq, hc]
        constructor
        · intro hck
          have hn1 := hck.len
          rw [TOf_len] at hn1
          exact ⟨hk, by omega, hlen, hst0 (by omega), by omega, hck⟩
        · exact fun g => g.2.2.check
      · exact (txs.ext e6).mono fun b hb => by
          have := e6.size
          rcases hb with h | h
          · exact .inl h
          · exact .inr ⟨h.1, by omega⟩
    · refine r5.same (by simp [cellOk]) ⟨.refl _, r5.get2s ⟨e5, s, t, false, rfl, ffIff fun g => hne ?_, fun h => (by cases h)⟩⟩
      have := g.2.2.off
      omega

end Go.Proofs.Ytehhkjgcklhfcaa
