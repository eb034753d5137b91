/-
  seglog: mend, Open.
-/
import Derived.Test.YtippdkokbhejmaaSeg4
import Derived.Test.YtippdkokbhejmaaLog2
namespace Go.Proofs.Ytippdkokbhejmaa
set_option linter.unusedVariables false
set_option linter.unusedSimpArgs false

theorem reset_nz (d : Dv) (i : Int) : (d.reset i).2.n = d.n := by unfold Dv.reset; (repeat' split) <;> rfl
theorem logMend_spec {lo : Nat} {F : Nat → Nat} {h : Hp} {db lb : Nat} {d : Dv} {S : LgV} {rs : Sl} (x : DevAt lo F h db d) (row : Row h lb (lgC db S rs)) (hF : F lb = 0) (o : S.Ok0) (hpos : S.pos ≤ 20000) (hn : S.low + 2 * S.count ≤ d.n) :
    HCalls Try.prog fn_seglog_Log_mend #[.pointer (some ⟨lb, 0, none⟩)] h fun v h' => v = .int .i64 (mendV d S).1 ∧ DevTo lo F h h' db (mendV d S).2 := by
  apply seglog_Log_mend_vc
  unfold vcseglog_Log_mend
  have hcnt := o.count
  have hh := o.half
  have hsz := o.size
  have hbn : S.base S.half + S.count ≤ d.n := by
    have : S.half * S.count ≤ 1 * S.count := Nat.mul_le_mul_right _ hh
    unfold LgV.base; omega
  refine ⟨_, rfl, _, row.get rfl, ?_⟩
  refine ⟨fun i m h' => ∃ (j : Nat) (F' : Nat → Nat) (d' : Dv), i = j ∧ m + j = S.count ∧ d.mend (S.base S.half) S.size S.pos 0 S.count = d'.mend (S.base S.half) S.size S.pos j (S.count - j) ∧ d'.n = d.n ∧ DevAt lo F' h' db d' ∧ (∀ b, b < h.size → F' b = F b) ∧ Chg F h h', S.count,
    ⟨0, F, d, rfl, rfl, rfl, rfl, x, fun _ _ => rfl, .refl _ _⟩, ?_⟩
  rintro _ _ m h1 ⟨j, F1, d1, rfl, hm, hcl, hn1, x1, g1, c1⟩
  have row1 := row.chg c1 hF
  have s1 := c1.size
  have hF1 : F1 lb = 0 := by rw [g1 _ row.lt]; exact hF
  refine IfB.dec (fun hlt => ?_) (fun hge => ?_)
  · refine ⟨_, rfl, _, row1.get0 rfl, _, rfl, _, row1.get rfl, ?_⟩
    refine (zone_spec row1 o S.half hh j (by omega)).mono ?_
    rintro _ h1' ⟨rfl, hh1⟩
    obtain rfl := hh1.symm
    refine ⟨_, rfl, .refl _, ?_⟩
    have hsub : S.count - j = (S.count - (j + 1)) + 1 := by omega
    rw [hsub, Dv.mend] at hcl
    refine (Pointer_spec x1 _).mono ?_
    rintro _ h1' ⟨hh1, ⟨hno, _⟩ | ⟨k', hk', hkn, rfl⟩⟩
    · exact absurd ⟨by omega, by rw [hn1]; omega⟩ hno
    obtain rfl := hh1.symm
    obtain rfl : k' = S.base S.half + j := by omega
    have ej : iAdd .i64 (j : Int) (1 : Int) = ((j + 1 : Nat) : Int) := by rw [iAdd64 (by omega)]; push_cast; rfl
    refine ⟨_, _, rfl, .refl _, IfB.eq (fun hz => ?_) (fun hz => ?_)⟩
    · rw [if_pos (by omega)] at hcl
      exact ⟨m - 1, by omega, j + 1, F1, d1, ej, by omega, hcl, hn1, x1, g1, c1⟩
    rw [if_neg (by omega)] at hcl
    refine ⟨_, rfl, _, row1.get rfl, _, rfl, _, row1.get rfl, ?_⟩
    have hjs : j * S.size ≤ 64 * 192 := Nat.mul_le_mul (by omega) hsz.2
    have em : iMul .i64 (j : Int) (S.size : Int) = ((j * S.size : Nat) : Int) := by
      have hc : ((j * S.size : Nat) : Int) = (j : Int) * (S.size : Int) := Int.natCast_mul _ _
      rw [iMul64 (by omega), ← hc]
    rw [em]
    refine IfB.dec (fun hlt2 => ?_) (fun hge2 => ?_)
    · rw [if_pos (by omega)] at hcl
      exact ⟨m - 1, by omega, j + 1, F1, d1, ej, by omega, hcl, hn1, x1, g1, c1⟩
    rw [if_neg (by omega)] at hcl
    obtain ⟨ob, hob, rob⟩ := row1.only
    refine ⟨onlyB lb ob, sub_only hob, _, rfl, _, rob.get0 rfl, _, rfl, _, rob.get rfl, ?_⟩
    refine (zone_spec row1 o S.half hh j (by omega)).mono ?_
    rintro _ h1' ⟨rfl, hh1⟩
    obtain rfl := hh1.symm
    refine ⟨_, rfl, sub_only hob, ?_⟩
    refine (Reset_spec x1 _).mono ?_
    rintro _ h2 ⟨rfl, t2⟩
    refine ⟨_, rfl, ?_, IfB.ne (fun hne => ?_) (fun heq => ?_)⟩
    · obtain ⟨F2, x2, g2, c2⟩ := t2
      exact sub_only (by rw [c2.block lb row1.lt hF1]; exact hob)
    · rw [if_pos hne] at hcl
      unfold mendV
      rw [hcl, if_pos hne]
      exact ⟨rfl, DevTo.trans g1 c1 t2⟩
    · rw [if_neg (fun h => h heq)] at hcl
      obtain ⟨F2, x2, g2, c2⟩ := DevTo.trans g1 c1 t2
      exact ⟨m - 1, by omega, j + 1, F2, _, ej, by omega, hcl, by rw [reset_nz, hn1], x2, g2, c2⟩
  · have hj : S.count - j = 0 := by omega
    rw [hj, Dv.mend] at hcl
    refine ⟨_, rfl, _, row1.get0 rfl, ?_⟩
    refine (Flush_spec x1).mono ?_
    rintro _ h2 ⟨rfl, t2⟩
    refine ⟨_, rfl, ?_⟩
    unfold mendV
    rw [hcl, if_neg (by simp)]
    exact ⟨rfl, DevTo.trans g1 c1 t2⟩

/-! ### Open -/
/-- what a scan says is taken in. -/
theorem openTake {F : Nat → Nat} {h : Hp} {lb db : Nat} {T : LgV} {rs : Sl} {rr : List (Sl × List UInt8)} (la : LogAt F h lb db T rs rr) {lo sb : Nat} {s : Sc} {ns ws : Sl} {nr : List (Sl × List UInt8)} {D : List WB} (sc : ScAt lo h sb s ns ws nr D) (hlo : lb < lo) (hF : ∀ b, lo ≤ b → F b = 0) {t46 len : Int} (half p : Nat) (ht : t46 = half) (hl : len = p) {K : Hp → Prop}
    (hK : ∀ h', LogAt F h' lb db ⟨T.low, T.count, T.size, half, s.epoch, p, s.first, s.recs, T.off⟩ ns nr → h'.size = h.size → (∀ b, b ≠ lb → h'[b]? = h[b]?) → K h') :
    ∃ hR : Hp, Sub hR h ∧
      ∃ a2 : Addr, (some ⟨sb, 0, none⟩ : Option Addr) = some a2 ∧
      ∃ c10 : Int, hcell hR (a2.add 2) = some (.int .i64 c10) ∧
      ∃ a3 : Addr, (some ⟨sb, 0, none⟩ : Option Addr) = some a3 ∧
      ∃ c11 : Int, hcell hR (a3.add 3) = some (.int .i64 c11) ∧
      ∃ a4 : Addr, (some ⟨sb, 0, none⟩ : Option Addr) = some a4 ∧
      ∃ c12 : Sl, hcell hR (a4.add 4) = some (.slice c12.base c12.len c12.cap) ∧
      ∃ a5 : Addr, (some ⟨lb, 0, none⟩ : Option Addr) = some a5 ∧
      StOk h (a5.add 4) ∧
      Lt (hset h (a5.add 4) (.int .i64 t46)) fun vh8 =>
      Sub hR vh8 ∧
      ∃ a6 : Addr, (some ⟨lb, 0, none⟩ : Option Addr) = some a6 ∧
      StOk vh8 (a6.add 5) ∧
      Lt (hset vh8 (a6.add 5) (.int .i64 c10)) fun vh9 =>
      Sub hR vh9 ∧
      ∃ a7 : Addr, (some ⟨lb, 0, none⟩ : Option Addr) = some a7 ∧
      StOk vh9 (a7.add 7) ∧
      Lt (hset vh9 (a7.add 7) (.int .i64 c11)) fun vh10 =>
      Sub hR vh10 ∧
      ∃ a8 : Addr, (some ⟨lb, 0, none⟩ : Option Addr) = some a8 ∧
      StOk vh10 (a8.add 8) ∧
      Lt (hset vh10 (a8.add 8) (.slice c12.base c12.len c12.cap)) fun vh11 =>
      Sub hR vh11 ∧
      ∃ a9 : Addr, (some ⟨lb, 0, none⟩ : Option Addr) = some a9 ∧
      StOk vh11 (a9.add 6) ∧
      Lt (hset vh11 (a9.add 6) (.int .i64 len)) fun vh12 => K vh12 := by
  subst ht hl
  obtain ⟨ob, hob, rob⟩ := sc.row.only
  have hsb := sc.sb0
  have hne : sb ≠ lb := by omega
  obtain ⟨ok4, r4, o4, s4⟩ := la.row.set (i := 4) (by simp [lgC]) (.int .i64 (half : Int))
  obtain ⟨ok5, r5, o5, s5⟩ := r4.set (i := 5) (by simp [lgC]) (.int .i64 (s.epoch : Int))
  obtain ⟨ok7, r7, o7, s7⟩ := r5.set (i := 7) (by simp [lgC]) (.int .i64 (s.first : Int))
  obtain ⟨ok8, r8, o8, s8⟩ := r7.set (i := 8) (by simp [lgC]) (.slice ns.base ns.len ns.cap)
  obtain ⟨ok6, r6, o6, s6⟩ := r8.set (i := 6) (by simp [lgC]) (.int .i64 (p : Int))
  refine ⟨onlyB sb ob, sub_only hob, _, rfl, _, rob.get rfl, _, rfl, _, rob.get rfl, _, rfl, ns, rob.get rfl, _, rfl, ok4, sub_only (by rw [o4 _ hne]; exact hob), _, rfl, ok5, sub_only (by rw [o5 _ hne, o4 _ hne]; exact hob), _, rfl, ok7, sub_only (by rw [o7 _ hne, o5 _ hne, o4 _ hne]; exact hob), _, rfl, ok8, sub_only (by rw [o8 _ hne, o7 _ hne, o5 _ hne, o4 _ hne]; exact hob), _, rfl, ok6, ?_⟩
  have same : ∀ b, b ≠ lb → (hset (hset (hset (hset (hset h ((⟨lb, 0, none⟩ : Addr).add 4) (.int .i64 (half : Int))) ((⟨lb, 0, none⟩ : Addr).add 5) (.int .i64 (s.epoch : Int))) ((⟨lb, 0, none⟩ : Addr).add 7) (.int .i64 (s.first : Int))) ((⟨lb, 0, none⟩ : Addr).add 8) (.slice ns.base ns.len ns.cap)) ((⟨lb, 0, none⟩ : Addr).add 6) (.int .i64 (p : Int)))[b]? = h[b]? := fun b hb => by rw [o6 _ hb, o8 _ hb, o7 _ hb, o5 _ hb, o4 _ hb]
  have rin : RowsIn (fun b => F b = 0 ∧ b < h.size ∧ b ≠ lb) ns nr := ⟨fun a ha => by have := sc.mem.own.lt ha; exact ⟨hF _ this.1, this.2, by omega⟩, fun q hq a ha => by
    obtain ⟨q1, q2, _⟩ := sc.mem.rb q hq a ha
    exact ⟨hF _ q1, q2, by omega⟩⟩
  have rr0 : RowsR h ns nr := ⟨sc.mem.own.toRd, sc.mem.reach⟩
  refine hK _ ⟨la.role, r6, rr0.eq rin fun b hb => same b hb.2.2, rin.mono fun b hb => ⟨hb.1, by rw [s6, s8, s7, s5, s4]; exact hb.2.1, hb.2.2⟩, sc.recs⟩ (by rw [s6, s8, s7, s5, s4]) same
theorem lg10 (h : Hp) (db low count size : Nat) (ty : Nat) : Row (alc h [dp db, .int .i64 (low : Int), .int .i64 (count : Int), .int .i64 (size : Int), .int .i64 (0 : Int), .int .i64 (0 : Int), .int .i64 (0 : Int), .int .i64 (0 : Int), .slice Sl.nil.base Sl.nil.len Sl.nil.cap, .bool false] ty) h.size (lgC db ⟨low, count, size, 0, 0, 0, 0, [], false⟩ Sl.nil) := Row.alc _ _ _
/-- what Open makes of a log that stands there. -/
def OpenLg (lo : Nat) (F : Nat → Nat) (h : Hp) (db : Nat) (d : Dv) (T : LgV) (r : Value) (h' : Hp) : Prop :=
  ∃ q F', DevAt lo F' h' db (mendV (withReads d q) T).2 ∧ (∀ b, b < h.size → F' b = F b) ∧ Chg F h h' ∧
    (((mendV (withReads d q) T).1 ≠ 0 ∧ r = .tuple #[.pointer none, .int .i64 (mendV (withReads d q) T).1]) ∨
     ((mendV (withReads d q) T).1 = 0 ∧ ∃ lb rs rr, h.size ≤ lb ∧ r = .tuple #[.pointer (some ⟨lb, 0, none⟩), .int .i64 0] ∧ LogAt F' h' lb db T rs rr ∧ RowsIn (fun b => h.size ≤ b) rs rr))
theorem logOpen_spec {lo : Nat} {F : Nat → Nat} {h : Hp} {db : Nat} {d : Dv} {S : LgV} (x : DevAt lo F h db d) (v : LgPre d S) {low high : Nat} (hlw : S.low = low) (hct : S.count = (high - low + 1) / 2) (hlt : low < high) (hhn : high < d.n) :
    HCalls Try.prog fn_seglog_Open #[dp db, .int .i64 (low : Int), .int .i64 (high : Int)] h (OpenLg lo F h db d { S with pos := (S.B d).length, off := false }) := by
  apply seglog_Open_vc
  unfold vcseglog_Open
  have w := x.1
  have hz := w.zones
  have hsz := w.size
  have hsd := v.size
  have hnn := v.n
  refine (Geometry_spec x).mono ?_
  rintro _ h1 ⟨rfl, e1⟩
  refine ⟨_, _, rfl, ?_⟩
  intro h2
  refine loc2 rfl rfl fun h3 e3 r3 => ?_
  have e03 := e1.trans e3
  refine ⟨_, r3.get0 rfl, .no (by simp; omega) (.no (by simp) (.no (by simp; omega) ⟨_, r3.get0 rfl, .no (by simp; omega) ⟨by omega, _, r3.get rfl, ?_⟩⟩))⟩
  have ecnt : iQuo .i64 (iAdd .i64 (iSub .i64 (high : Int) (low : Int)) (1 : Int)) (2 : Int) = (S.count : Int) := by
    have hs : iSub .i64 (high : Int) (low : Int) = ((high - low : Nat) : Int) := by rw [iSub64 (by omega)]; omega
    have ha : iAdd .i64 ((high - low : Nat) : Int) (1 : Int) = ((high - low + 1 : Nat) : Int) := by rw [iAdd64 (by omega)]; push_cast; rfl
    rw [hs, ha, iQuo64 (by omega), hct, Int.tdiv_eq_ediv_of_nonneg (by omega)]; rfl
  rw [ecnt, ← hlw, ← hsd]
  intro h4
  have e4 : Ext h3 h4 := alc_ext _ _ _
  have e04 := e03.trans e4
  have s04 := e04.size
  have s03 := e03.size
  have s3 := e3.size
  have sz4 : h4.size = h3.size + 1 := size_alc _ _ _
  have row4 : Row h4 h3.size (lgC db (ofPk S.low S.count S.size none) Sl.nil) := lg10 _ _ _ _ _ _
  have Fz : ∀ b, h.size ≤ b → F b = 0 := fun b hb => x.free hb
  have la4 : LogAt F h4 h3.size db (ofPk S.low S.count S.size none) Sl.nil [] := ⟨Fz _ s03, row4, RowsR.nil _, RowsIn.nil _, rfl⟩
  have hnw : (nw h3) = (⟨h3.size, 0, none⟩ : Addr) := rfl
  rw [hnw]
  -- the halves
  generalize hA : zRows d S.low S.count = A
  generalize hB : zRows d (S.low + S.count) S.count = B
  have hpk := pk_pre v
  rw [hA, hB] at hpk
  have okAB : ∀ j, j < 2 → ((if j = 0 then A else B).any odd4) = false := by
    intro j hj
    rw [List.any_eq_false]
    intro p hp
    have hk : okK p := by
      have hh := v.half
      have kc := v.kc
      have ko := v.ko
      unfold LgV.B at kc
      unfold LgV.X at ko
      rcases (show S.half = 0 ∨ S.half = 1 by omega) with e | e
      · rw [e, LgV.base0, hA] at kc
        rw [e, LgV.base1, hB] at ko
        split at hp
        · exact kc p hp
        · exact ko p hp
      · rw [e, LgV.base1, hB] at kc
        rw [e, LgV.base0, hA] at ko
        split at hp
        · exact ko p hp
        · exact kc p hp
    rw [odd4_okK.2 hk]; simp
  refine ⟨fun best i m h' => ∃ (j : Nat) (q : Int) (rs : Sl) (rr : List (Sl × List UInt8)), i = j ∧ m + j = 2 ∧ DevAt lo F h' db (withReads d q) ∧ Chg F h h' ∧ LogAt F h' h3.size db (ofPk S.low S.count S.size (pkN A B j)) rs rr ∧ RowsIn (fun b => h.size ≤ b) rs rr ∧
      ((pkN A B j = none ∧ best = none) ∨ ∃ (t : Nat × Sc × Nat) (bb : Nat) (ns ws : Sl), pkN A B j = some t ∧ best = some ⟨bb, 0, none⟩ ∧ h.size ≤ bb ∧ bb ≠ h3.size ∧ Row h' bb (scV t.2.1 ns ws)), 2,
    ⟨0, d.reads, Sl.nil, [], rfl, rfl, x.ext e04, e04.chg F, la4, RowsIn.nil _, .inl ⟨rfl, rfl⟩⟩, ?_⟩
  rintro _ best _ m h5 ⟨j, q, rs, rr, rfl, hm, x5, c5, la5, ri5, hbest⟩
  have s5 := c5.size
  have ok0 : ∀ t, (ofPk S.low S.count S.size t).low = S.low ∧ (ofPk S.low S.count S.size t).count = S.count ∧ (ofPk S.low S.count S.size t).size = S.size := fun t => by cases t <;> exact ⟨rfl, rfl, rfl⟩
  have hlb5 := la5.row.lt
  refine IfB.dec (fun hlt2 => ?_) (fun hge => ?_)
  · have hj : j < 2 := by omega
    obtain ⟨k1, k2, k3⟩ := ok0 (pkN A B j)
    have hhalf : (ofPk S.low S.count S.size (pkN A B j)).half ≤ 1 := by
      rcases (show j = 0 ∨ j = 1 by omega) with rfl | rfl
      · exact Nat.zero_le _
      · show (ofPk S.low S.count S.size (pkS 0 A none)).half ≤ 1
        unfold pkS
        split
        · exact Nat.zero_le _
        · exact Nat.zero_le _
    have o0 : (ofPk S.low S.count S.size (pkN A B j)).Ok0 := ⟨by omega, by omega, by omega, hhalf⟩
    refine (logBlocks_spec x5 la5.row la5.role o0 j (by omega) (by rw [k1, k2]; exact hnn) (by rw [k3]; exact hsd)).mono ?_
    rintro _ h6 ⟨out, rows, q6, rfl, o6, hrows, x6, c6⟩
    have hrows' : rows.map (·.2) = (if j = 0 then A else B) := by
      rw [hrows, zRows_reads]
      rcases (show j = 0 ∨ j = 1 by omega) with rfl | rfl
      · rw [LgV.base0, k1, k2, if_pos rfl, hA]
      · rw [LgV.base1, k1, k2, if_neg (by omega), hB]
    have h64 : ∀ p ∈ rows, p.2.length = 64 := fun p hp => by
      have : p.2 ∈ rows.map (·.2) := List.mem_map.2 ⟨p, hp, rfl⟩
      rw [hrows, zRows_reads] at this
      exact zRows_64 w _ _ _ this
    have hrl : rows.length ≤ 12288 := by
      have h1 := zRows_len w ((ofPk S.low S.count S.size (pkN A B j)).base j) (ofPk S.low S.count S.size (pkN A B j)).count
      have h2 := congrArg List.length hrows
      rw [zRows_reads] at h2
      simp only [List.length_map] at h2
      have : (ofPk S.low S.count S.size (pkN A B j)).count * 192 ≤ 64 * 192 := Nat.mul_le_mul_right _ o0.count
      omega
    refine ⟨out, rfl, ?_⟩
    refine (strange_spec o6 h64 (by omega)).mono ?_
    rintro _ h6' ⟨rfl, hh6⟩
    obtain rfl := hh6.symm
    refine ⟨_, rfl, .no (by rw [hrows']; exact okAB j hj) ?_⟩
    refine (segRead_spec o6.rowsR (by omega)).mono ?_
    rintro _ h7 ⟨rfl, e7, ns, ws, nr, D, sc⟩
    have s6 := c6.size
    have s7 := e7.size
    have c57 : Chg F h h7 := (c5.tr c6).tr (e7.chg F)
    have x7 : DevAt lo F h7 db (withReads d q6) := x6.ext e7
    have la7 := (la5.chg c6 fun _ _ => rfl).ext e7
    rw [hrows'] at sc
    generalize hX : (if j = 0 then A else B) = X at sc hrows'
    have hXl : X.length = rows.length := by rw [← hrows', List.length_map]
    have hol := o6.len
    have ej : iAdd .i64 (j : Int) (1 : Int) = ((j + 1 : Nat) : Int) := by rw [iAdd64 (by omega)]; push_cast; rfl
    have hnext : pkN A B (j + 1) = pkS j X (pkN A B j) := by
      rcases (show j = 0 ∨ j = 1 by omega) with rfl | rfl
      · rw [← hX, if_pos rfl]; rfl
      · rw [← hX, if_neg (by omega)]; rfl
    refine ⟨_, rfl, _, rfl, _, sc.row.get rfl, ?_⟩
    -- the other one stays
    have keep : pkS j X (pkN A B j) = pkN A B j → ∃ n2, n2 < m ∧ ∃ (j' : Nat) (q : Int) (rs : Sl) (rr : List (Sl × List UInt8)), iAdd .i64 (j : Int) (1 : Int) = j' ∧ n2 + j' = 2 ∧ DevAt lo F h7 db (withReads d q) ∧ Chg F h h7 ∧ LogAt F h7 h3.size db (ofPk S.low S.count S.size (pkN A B j')) rs rr ∧ RowsIn (fun b => h.size ≤ b) rs rr ∧
        ((pkN A B j' = none ∧ best = none) ∨ ∃ (t : Nat × Sc × Nat) (bb : Nat) (ns ws : Sl), pkN A B j' = some t ∧ best = some ⟨bb, 0, none⟩ ∧ h.size ≤ bb ∧ bb ≠ h3.size ∧ Row h7 bb (scV t.2.1 ns ws)) := by
      intro he
      have hn' : pkN A B (j + 1) = pkN A B j := by rw [hnext, he]
      refine ⟨m - 1, by omega, j + 1, q6, rs, rr, ej, by omega, x7, c57, by rw [hn']; exact la7, ri5, ?_⟩
      rw [hn']
      rcases hbest with h | ⟨t, bb, ns', ws', g1, g2, g3, g4, g5⟩
      · exact .inl h
      · exact .inr ⟨t, bb, ns', ws', g1, g2, g3, g4, (g5.chg c6 (Fz _ g3)).ext e7⟩
    -- this one is taken
    have take : pkS j X (pkN A B j) = some (j, scanL X, X.length) → ∀ (h' : Hp), LogAt F h' h3.size db ⟨S.low, S.count, S.size, j, (scanL X).epoch, X.length, (scanL X).first, (scanL X).recs, false⟩ ns nr → h'.size = h7.size → (∀ b, b ≠ h3.size → h'[b]? = h7[b]?) →
        ∃ n2, n2 < m ∧ ∃ (j' : Nat) (q : Int) (rs : Sl) (rr : List (Sl × List UInt8)), iAdd .i64 (j : Int) (1 : Int) = j' ∧ n2 + j' = 2 ∧ DevAt lo F h' db (withReads d q) ∧ Chg F h h' ∧ LogAt F h' h3.size db (ofPk S.low S.count S.size (pkN A B j')) rs rr ∧ RowsIn (fun b => h.size ≤ b) rs rr ∧
        ((pkN A B j' = none ∧ (some ⟨h6.size, 0, none⟩ : Option Addr) = none) ∨ ∃ (t : Nat × Sc × Nat) (bb : Nat) (ns ws : Sl), pkN A B j' = some t ∧ (some ⟨h6.size, 0, none⟩ : Option Addr) = some ⟨bb, 0, none⟩ ∧ h.size ≤ bb ∧ bb ≠ h3.size ∧ Row h' bb (scV t.2.1 ns ws)) := by
      intro he h' la' s' o'
      have hn' : pkN A B (j + 1) = some (j, scanL X, X.length) := by rw [hnext, he]
      have hb6 : h6.size ≠ h3.size := by omega
      refine ⟨m - 1, by omega, j + 1, q6, ns, nr, ej, by omega, x7.keep (by omega) fun b hb => o' b fun e => hb (by rw [e]; exact Fz _ s03), ⟨by have := c57.size; omega, fun b hb hFb => by rw [o' b (by omega), c57.block b hb hFb]⟩, by rw [hn']; exact la', ⟨fun a ha => ?_, fun p hp a ha => ?_⟩, .inr ⟨_, h6.size, ns, ws, hn', rfl, by omega, hb6, sc.row.eq (o' _ hb6)⟩⟩
      · have := (sc.mem.own.lt ha).1; omega
      · have := (sc.mem.rb p hp a ha).1; omega
    have hlen : (out.len : Int) = ((X.length : Nat) : Int) := by omega
    have noff : (ofPk S.low S.count S.size (pkN A B j)).off = false := by cases pkN A B j <;> rfl
    have doTake : ∀ {K : Hp → Prop}, (∀ h', LogAt F h' h3.size db ⟨S.low, S.count, S.size, j, (scanL X).epoch, X.length, (scanL X).first, (scanL X).recs, false⟩ ns nr → h'.size = h7.size → (∀ b, b ≠ h3.size → h'[b]? = h7[b]?) → K h') → _ := fun {K} hK => openTake la7 sc (by omega) (fun b hb => Fz b (by omega)) j X.length rfl hlen (K := K) (by
      rw [k1, k2, k3, noff]; exact hK)
    refine IfB.intro (fun hv => ?_) (fun hv => keep (by unfold pkS; rw [if_neg (fun h => by have := h.1; rw [hv] at this; cases this)]))
    rcases hbest with ⟨hp, rfl⟩ | ⟨t, bb, ns', ws', g1, rfl, g3, g4, g5⟩
    · refine .yes rfl ⟨_, rfl, _, sc.row.get0 rfl, IfB.intro (fun hhd => ?_) (fun hhd => IfB.eq (fun hj0 => ?_) (fun hj0 => keep ?_))⟩
      · exact doTake (take (by unfold pkS; rw [if_pos ⟨hv, fun b hb => (by rw [hp] at hb; cases hb), .inl hhd⟩]))
      · exact doTake (take (by unfold pkS; rw [if_pos ⟨hv, fun b hb => (by rw [hp] at hb; cases hb), .inr (by omega)⟩]))
      · unfold pkS; rw [if_neg (fun h => by rcases h.2.2 with h | h; rw [hhd] at h; cases h; omega)]
    · refine .no rfl ⟨_, rfl, _, sc.row.get rfl, _, rfl, _, ((g5.chg c6 (Fz _ g3)).ext e7).get rfl, IfB.dec (fun hgt => ⟨_, rfl, _, sc.row.get0 rfl, IfB.intro (fun hhd => ?_) (fun hhd => IfB.eq (fun hj0 => ?_) (fun hj0 => keep ?_))⟩) (fun hle => keep ?_)⟩
      · exact doTake (take (by unfold pkS; rw [if_pos ⟨hv, fun b hb => (by rw [g1] at hb; cases hb; omega), .inl hhd⟩]))
      · exact doTake (take (by unfold pkS; rw [if_pos ⟨hv, fun b hb => (by rw [g1] at hb; cases hb; omega), .inr (by omega)⟩]))
      · unfold pkS; rw [if_neg (fun h => by rcases h.2.2 with h | h; rw [hhd] at h; cases h; omega)]
      · unfold pkS; rw [if_neg (fun h => by have := h.2.1 t g1; omega)]
  · obtain rfl : j = 2 := by omega
    rw [hpk] at hbest la5
    rcases hbest with ⟨hno, _⟩ | ⟨t, bb, ns', ws', g1, rfl, g3, g4, g5⟩
    · cases hno
    have hT : ofPk S.low S.count S.size (some (S.half, scanL (S.B d), (S.B d).length)) = { S with pos := (S.B d).length, off := false } := of_pre v
    rw [hT] at la5
    have hBl : (S.B d).length ≤ 12288 := by
      have h1 := zRows_len w (S.base S.half) S.count
      have : S.count * 192 ≤ 64 * 192 := Nat.mul_le_mul_right _ (by omega)
      unfold LgV.B; omega
    refine .no rfl ?_
    refine (logMend_spec x5 la5.row la5.role ⟨by show S.low ≤ 64; omega, by show S.count ≤ 64; omega, by show 1 ≤ S.size ∧ S.size ≤ 192; omega, v.half⟩ (by show (S.B d).length ≤ 20000; omega) hnn).mono ?_
    rintro _ h6 ⟨rfl, F6, x6, g6, c6⟩
    have c06 := c5.tr c6
    have g06 : ∀ b, b < h.size → F6 b = F b := fun b hb => g6 b (by omega)
    refine ⟨_, rfl, IfB.ne (fun hne => ⟨q, F6, x6, g06, c06, .inl ⟨hne, rfl⟩⟩) (fun heq => ⟨q, F6, x6, g06, c06, .inr ⟨heq, h3.size, rs, rr, s03, rfl, la5.chg c6 g6, ri5⟩⟩)⟩

end Go.Proofs.Ytippdkokbhejmaa
