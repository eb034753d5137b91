/-
  batch.row: the blocks up to the first that is no Data block like the others.
-/
import Derived.Test.YtehhkjgcklhfcaaBatch2
import Derived.Test.YtehhkjgcklhfcaaOwnP
import Derived.Test.YtehhkjgcklhfcaaFrame3
namespace Go.Proofs.Ytehhkjgcklhfcaa
set_option linter.unusedVariables false
set_option linter.unusedSimpArgs false

/-- rows of bytes that can be read. -/
structure RowsR (h : Hp) (s : Sl) (rows : List (Sl × List UInt8)) : Prop where
  rd : RdC h s.base (rows.map fun p => slV p.1)
  len : s.len = rows.length
  each : ∀ p ∈ rows, Rd 1 h p.1 (p.2.map bv)
theorem RowsR.ext {h h' : Hp} {s : Sl} {rows : List (Sl × List UInt8)} (r : RowsR h s rows) (e : Ext h h') : RowsR h' s rows := ⟨r.rd.ext e, r.len, fun p hp => (r.each p hp).ext e⟩
theorem OwnRows.rows {lo : Nat} {h : Hp} {t : Sl} {rows : List (Sl × List UInt8)} (o : OwnRows lo h t rows) : RowsR h t rows := ⟨o.own.rd, o.len, o.each⟩
def good (p : List UInt8) : Prop := p.length = 64 ∧ goodP p
def rwL (l : List (List UInt8)) (i : Nat) : List UInt8 := l.getD i []
def dataOk (l : List (List UInt8)) (i : Nat) : Prop := good (rwL l i) ∧ dE (rwL l i) = dE (rwL l 0) ∧ dS (rwL l i) = dS (rwL l 0) ∧ dK (rwL l i) = 1
def sameOk (l : List (List UInt8)) (i : Nat) : Prop := good (rwL l i) ∧ dE (rwL l i) = dE (rwL l 0) ∧ dS (rwL l i) = dS (rwL l 0)
theorem rwL_get {rows : List (Sl × List UInt8)} {j : Nat} (h : j < rows.length) : rwL (rows.map (·.2)) j = rows[j].2 := by simp [rwL, h]
def putsOf (l : List (List UInt8)) (i : Nat) : List PutD := (l.take i).map fun p => ((dL p : Int), dB p)
theorem putsOf_succ {l : List (List UInt8)} {j : Nat} (h : j < l.length) : putsOf l (j + 1) = putsOf l j ++ [((dL (rwL l j) : Int), dB (rwL l j))] := by
  unfold putsOf
  rw [List.take_succ_eq_append_getElem h, List.map_append]
  simp [rwL, h]
/-- what row answers. -/
def RowA (h : Hp) (l : List (List UInt8)) (r : Value) (h' : Hp) : Prop :=
  Ext h h' ∧ ∃ (i : Nat) (t : Sl), i ≤ l.length ∧ (∀ k, k < i → dataOk l k) ∧ PutsR (fun b => h.size ≤ b ∧ b < h'.size) h' t (putsOf l i) ∧
    (i = l.length ∧ (∃ (k e s lb : Int) (u : Sl), r = .tuple #[.slice t.base t.len t.cap, .agg #[.int .i64 k, .int .i64 e, .int .i64 s, .int .i64 lb, .slice u.base u.len u.cap], .bool false]) ∨
     i < l.length ∧ ¬ dataOk l i ∧ ∃ (k e s lb : Int) (u : Sl), r = .tuple #[.slice t.base t.len t.cap, .agg #[.int .i64 k, .int .i64 e, .int .i64 s, .int .i64 lb, .slice u.base u.len u.cap], .bool true] ∧
       (¬ sameOk l i ∧ k = 0 ∨ sameOk l i ∧ k = (dK (rwL l i) : Int) ∧ e = (dE (rwL l i) : Int) ∧ s = (dS (rwL l i) : Int) ∧ lb = (dL (rwL l i) : Int) ∧ Rd 1 h' u ((dB (rwL l i)).map bv)))
theorem row_spec {h : Hp} {s : Sl} {rows : List (Sl × List UInt8)} (w : RowsR h s rows) (hmax : rows.length ≤ 1000000) : HCalls Try.prog fn_batch_row #[.slice s.base s.len s.cap] h (RowA h (rows.map (·.2))) := by
  apply batch_row_vc
  unfold vcbatch_row
  have hl := w.len
  obtain ⟨l, hll⟩ : ∃ l, rows.map (·.2) = l := ⟨_, rfl⟩
  rw [hll]
  have hlen : l.length = rows.length := by rw [← hll]; simp
  intro h1
  have e1 : Ext h h1 := alc_ext _ _ _
  have r1 : Row h1 h.size (blkV 0 0 0 0 Sl.nil) := Row.alc _ _ _
  have s1 : h1.size = h.size + 1 := size_alc _ _ _
  intro h2
  refine put5 fun h2 e2 r2 => ?_
  have s2 : h1.size < h2.size := r2.lt
  -- the end
  have fin : ∀ (puts : Sl) (wh : Bool) (h9 : Hp) (k e s' lb : Int) (u : Sl), Row h9 h.size (blkV k e s' lb u) → RowA h l (.tuple #[.slice puts.base puts.len puts.cap, .agg #[.int .i64 k, .int .i64 e, .int .i64 s', .int .i64 lb, .slice u.base u.len u.cap], .bool wh]) h9 →
      ∃ c24 : Int, ∃ c25 : Int, ∃ c26 : Int, ∃ c27 : Int, ∃ c28 : Sl, hcell h9 (nw h) = some (.int .i64 c24) ∧ hcell h9 ((nw h).add 1) = some (.int .i64 c25) ∧ hcell h9 ((nw h).add 2) = some (.int .i64 c26) ∧ hcell h9 ((nw h).add 3) = some (.int .i64 c27) ∧ hcell h9 ((nw h).add 4) = some (.slice c28.base c28.len c28.cap) ∧
      stCells (nw h) 0 [.int .i64 c24, .int .i64 c25, .int .i64 c26, .int .i64 c27, .slice c28.base c28.len c28.cap] h9 fun vh16 =>
      Ext h9 vh16 ∧
      ∃ x : Int, ∃ x1 : Int, ∃ x2 : Int, ∃ x3 : Int, ∃ x4 : Sl, hcell vh16 (nw h) = some (.int .i64 x) ∧ hcell vh16 ((nw h).add 1) = some (.int .i64 x1) ∧ hcell vh16 ((nw h).add 2) = some (.int .i64 x2) ∧ hcell vh16 ((nw h).add 3) = some (.int .i64 x3) ∧ hcell vh16 ((nw h).add 4) = some (.slice x4.base x4.len x4.cap) ∧
      RowA h l (.tuple #[.slice puts.base puts.len puts.cap, .agg #[.int .i64 x, .int .i64 x1, .int .i64 x2, .int .i64 x3, .slice x4.base x4.len x4.cap], .bool wh]) vh16 := by
    intro puts wh h9 k e s' lb u r9 ans
    refine r9.get5 ?_
    exact r9.same (blkV_ok _ _ _ _ _) ⟨.refl _, r9.get5 ans⟩
  refine ⟨fun puts wh h' => ∃ (k e s' lb : Int) (u : Sl), Row h' h.size (blkV k e s' lb u) ∧ RowA h l (.tuple #[.slice puts.base puts.len puts.cap, .agg #[.int .i64 k, .int .i64 e, .int .i64 s', .int .i64 lb, .slice u.base u.len u.cap], .bool wh]) h', ?_, fun _ puts wh h9 ⟨k, e, s', lb, u, r9, ans⟩ => fin puts wh h9 k e s' lb u r9 ans⟩
  refine ⟨fun puts wh i m h' => wh = false ∧ ∃ (j : Nat) (L : List ((Int × Sl) × List UInt8)), i = j ∧ m + j = l.length ∧ Ext h h' ∧ h2.size ≤ h'.size ∧ (∀ k, k < j → dataOk l k) ∧ Row h' h.size (blkV 0 0 0 0 Sl.nil) ∧ OwnPuts h2.size h' puts L ∧ plP L = putsOf l j ∧
    ∃ (k e s' lb : Int) (u : Sl), Row h' h1.size (blkV k e s' lb u) ∧ (0 < j → e = (dE (rwL l 0) : Int) ∧ s' = (dS (rwL l 0) : Int)), l.length,
    ⟨rfl, 0, [], rfl, rfl, e1.trans e2, Nat.le_refl _, fun k hk => by omega, r1.ext e2, OwnPuts.nil _ _, rfl, _, _, _, _, _, r2, fun h => by omega⟩, ?_⟩
  rintro _ puts _ _ m h3 ⟨rfl, j, L, rfl, hm, e3, s3, hok, rl, op, hL, fk, fe, fs, flb, fu, rf, hfirst⟩
  have hLl : L.length = min j l.length := by
    have := congrArg List.length hL
    simp only [plP, putsOf, List.length_map, List.length_take] at this
    exact this
  refine IfB.dec (fun hlt => ?_) (fun hge => ?_)
  · have hj : j < rows.length := by omega
    have hjl : j < l.length := by omega
    have hrow : rwL l j = rows[j].2 := by rw [← hll]; exact rwL_get hj
    have hmem : rows[j] ∈ rows := List.getElem_mem hj
    refine ixS (w.rd.ext e3) hl j rfl hj ?_
    refine (Decode_spec ((w.each _ hmem).ext e3)).mono ?_
    rintro _ h4 d
    obtain ⟨e4, k, e, s', lb, t, c, rfl, d1, d2, d3⟩ := d.shape
    rw [← hrow] at d1 d2 d3
    have s4 := e4.size
    refine ⟨k, e, s', lb, t, c, rfl, ?_⟩
    intro h5
    refine put5 fun h6 e6 r6 => ?_
    have s6 : h4.size < h6.size := r6.lt
    have e46 := e4.trans e6
    have op6 := op.ext e46
    have tb : c = 0 → Rd 1 h6 t ((dB (rwL l j)).map bv) ∧ ∀ a, t.base = some a → h3.size ≤ a.block ∧ a.block < h4.size := fun hc => by
      by_cases hlen64 : (rwL l j).length = 64
      · by_cases hg : goodP (rwL l j)
        · obtain ⟨_, _, _, _, _, ot⟩ := d3 hlen64 hg
          exact ⟨(ot.ext e6).toRd, fun a ha => ot.lt ha⟩
        · have := d2 hlen64 hg; omega
      · have := d1 hlen64; omega
    -- behind the first one's keeping
    refine ⟨fun h' => Ext h h' ∧ h'.size = h6.size ∧ Row h' h.size (blkV 0 0 0 0 Sl.nil) ∧ Row h' h4.size (blkV k e s' lb t) ∧ (∀ b, h2.size ≤ b → h'[b]? = h6[b]?) ∧ ∃ (k1 e1 s1 lb1 : Int) (u1 : Sl), Row h' h1.size (blkV k1 e1 s1 lb1 u1) ∧ (j = 0 → e1 = e ∧ s1 = s') ∧ (0 < j → e1 = (dE (rwL l 0) : Int) ∧ s1 = (dS (rwL l 0) : Int)), ?_, ?_⟩
    · refine IfB.eq (fun h0 => ?_) (fun hne => ?_)
      · refine r6.get5 ?_
        refine (rf.ext e46).put (vs := blkV k e s' lb t) rfl (blkV_ok _ _ _ _ _) fun h7 r7 s7 o7 => ?_
        refine ⟨⟨by have := e3.size; omega, fun b hb => by rw [o7 b (by omega), e46.block b (by have := e3.size; omega), e3.block b hb]⟩, s7, (rl.ext e46).eq (o7 _ (by omega)), r6.eq (o7 _ (by omega)), fun b hb => o7 b (by omega), _, _, _, _, _, r7, fun _ => ⟨rfl, rfl⟩, fun h => by omega⟩
      · exact ⟨e3.trans e46, rfl, rl.ext e46, r6, fun _ _ => rfl, _, _, _, _, _, rf.ext e46, fun h => by omega, hfirst⟩
    rintro _ h7 ⟨e7, s7, rl7, r7, same7, k1, fe1, fs1, lb1, u1, rf7, hf0, hf1⟩
    have op7 : OwnPuts h2.size h7 puts L := op6.eq (by omega) fun b hb _ => same7 b hb
    have puts7 : PutsR (fun b => h.size ≤ b ∧ b < h7.size) h7 puts (putsOf l j) := by
      have := op7.puts
      rw [hL] at this
      exact this.mono fun b hb => ⟨by omega, hb.2⟩
    have hE : c = 0 → (e = fe1 ∧ s' = fs1 ↔ dE (rwL l j) = dE (rwL l 0) ∧ dS (rwL l j) = dS (rwL l 0)) ∧ e = (dE (rwL l j) : Int) ∧ s' = (dS (rwL l j) : Int) ∧ k = (dK (rwL l j) : Int) ∧ lb = (dL (rwL l j) : Int) ∧ good (rwL l j) := fun hc => by
      by_cases hlen64 : (rwL l j).length = 64
      · by_cases hg : goodP (rwL l j)
        · obtain ⟨_, a1, a2, a3, a4, _⟩ := d3 hlen64 hg
          refine ⟨?_, a2, a3, a1, a4, hlen64, hg⟩
          rcases Nat.eq_zero_or_pos j with h0 | h0
          · subst h0; have := hf0 rfl; exact ⟨fun _ => ⟨rfl, rfl⟩, fun _ => ⟨this.1.symm, this.2.symm⟩⟩
          · have := hf1 h0; constructor <;> rintro ⟨b1, b2⟩ <;> constructor <;> omega
        · have := d2 hlen64 hg; omega
      · have := d1 hlen64; omega
    have hbadc : c ≠ 0 → ¬ good (rwL l j) := fun hc hg => by have := (d3 hg.1 hg.2).1; omega
    -- none like the others
    have none_ : ¬ sameOk l j → stCells (nw h) 0 [.int .i64 (0 : Int), .int .i64 (0 : Int), .int .i64 (0 : Int), .int .i64 (0 : Int), .slice Sl.nil.base Sl.nil.len Sl.nil.cap] h7 fun vh9 =>
        ∃ (k e s' lb : Int) (u : Sl), Row vh9 h.size (blkV k e s' lb u) ∧ RowA h l (.tuple #[.slice puts.base puts.len puts.cap, .agg #[.int .i64 k, .int .i64 e, .int .i64 s', .int .i64 lb, .slice u.base u.len u.cap], .bool true]) vh9 := fun hno => by
      refine rl7.same (blkV_ok _ _ _ _ _) ⟨0, 0, 0, 0, Sl.nil, rl7, e7, j, puts, by omega, hok, puts7, .inr ⟨hjl, fun hd => hno ⟨hd.1, hd.2.1, hd.2.2.1⟩, 0, 0, 0, 0, Sl.nil, rfl, .inl ⟨hno, rfl⟩⟩⟩
    refine IfB.ne (fun hc => none_ fun hs => hbadc hc hs.1) (fun hc => ?_)
    obtain ⟨h5e, h5a, h5b, h5c, h5d, h5g⟩ := hE hc
    refine ⟨e, r7.get rfl, fe1, rf7.get rfl, IfB.ne (fun hne => none_ fun hs => hne (h5e.2 hs.2).1) (fun he => ⟨s', r7.get rfl, fs1, rf7.get rfl, IfB.ne (fun hne => none_ fun hs => hne (h5e.2 hs.2).2) (fun hs => ⟨k, r7.get0 rfl, ?_⟩)⟩)⟩
    have hsame : sameOk l j := ⟨h5g, h5e.1 ⟨he, hs⟩⟩
    have ht7 : Rd 1 h7 t ((dB (rwL l j)).map bv) := (tb hc).1.eq fun a ha => same7 _ (by have := ((tb hc).2 a ha).1; omega)
    refine IfB.ne (fun hk1 => ?_) (fun hk1 => ?_)
    · refine r7.get5 ?_
      refine rl7.put (vs := blkV k e s' lb t) rfl (blkV_ok _ _ _ _ _) fun h8 r8 s8 o8 => ?_
      have e8 : Ext h h8 := ⟨by have := e7.size; omega, fun b hb => by rw [o8 b (by omega), e7.block b hb]⟩
      refine ⟨k, e, s', lb, t, r8, e8, j, puts, by omega, hok, ?_, .inr ⟨hjl, fun hd => by have := hd.2.2.2; omega, k, e, s', lb, t, rfl, .inr ⟨hsame, h5c, h5a, h5b, h5d, ht7.eq fun a ha => o8 _ (by have := ((tb hc).2 a ha).1; omega)⟩⟩⟩
      have := (op7.eq (h' := h8) (by omega) fun b hb _ => o8 b (by omega)).puts
      rw [hL] at this
      exact this.mono fun b hb => ⟨by omega, hb.2⟩
    · refine ⟨lb, r7.get rfl, t, r7.get rfl, ?_⟩
      intro h8
      refine op7.push rfl (by omega) ht7 (fun a ha => ⟨by have := ((tb hc).2 a ha).1; omega, by have := ((tb hc).2 a ha).2; omega, fun a' ha' => by have := ((tb hc).2 a ha).1; have := (op.own.lt ha').2; omega⟩) (by omega) fun r h9 o9 l9 k9 x9 b9 => ?_
      have hd : dataOk l j := ⟨hsame.1, hsame.2.1, hsame.2.2, by omega⟩
      refine ⟨m - 1, by omega, rfl, j + 1, _, by rw [iAdd64 (by omega)]; push_cast; rfl, by omega, ⟨by have := e7.size; have := k9.size; omega, fun b hb => by rw [k9.block b (by omega), e7.block b hb]⟩, by have := k9.size; omega, fun x hx => ?_, rl7.eq (k9.block _ (by omega)), o9, ?_, k1, fe1, fs1, lb1, u1, rf7.eq (k9.block _ (by omega)), fun _ => ?_⟩
      · by_cases ex : x = j
        · subst ex; exact hd
        · exact hok x (by omega)
      · rw [putsOf_succ hjl, ← hL, ← h5d]; simp [plP]
      · rcases Nat.eq_zero_or_pos j with h0 | h0
        · subst h0; exact ⟨by omega, by omega⟩
        · exact hf1 h0
  · obtain rfl : j = l.length := by omega
    refine ⟨0, 0, 0, 0, Sl.nil, rl, e3, l.length, puts, Nat.le_refl _, hok, ?_, .inl ⟨rfl, 0, 0, 0, 0, Sl.nil, rfl⟩⟩
    have := op.puts
    rw [hL] at this
    exact this.mono fun b hb => ⟨by omega, hb.2⟩

end Go.Proofs.Ytehhkjgcklhfcaa
