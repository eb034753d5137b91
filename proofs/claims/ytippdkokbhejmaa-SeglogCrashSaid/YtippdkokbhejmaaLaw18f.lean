/-
  SeglogCrash (chapter 18).
-/
import Derived.Test.YtippdkokbhejmaaLaw18e
namespace Go.Proofs.Ytippdkokbhejmaa
set_option linter.unusedVariables false
set_option linter.unusedSimpArgs false

/-- Append, upon a device of which the power may go. -/
theorem appendAny {h0 h : Hp} {F : Nat → Nat} {db lb : Nat} {d : Dv} {S : LgV} {rs : Sl} {rr : List (Sl × List UInt8)} (p : LgF h0 h F db lb d S rs rr) {s : Sl} {R : List (Sl × List UInt8)} (hs : Small S R.length)
    (r : RowsR h s R) (ri : RowsIn (fun b => F b = 0 ∧ b < h.size ∧ b ≠ lb) s R) (h1 : 1 ≤ R.length) (h2 : R.length ≤ 40) (h40 : ∀ p ∈ R, p.2.length ≤ 40) (hroom : S.recs.length + R.length + 2 ≤ S.count * S.size) {K : Int → Int → Hp → Prop}
    (hK : ∀ F' h' rs' rr' d' S', LgF h0 h' F' db lb d' S' rs' rr' → LgTo S S' S.first (S.recs ++ R.map (·.2)) → FrL F F' h h' lb → K ((S.first + S.recs.length : Nat) : Int) 0 h')
    (hK12 : ∀ F' h' rs' rr' d', DevAt h0.size F' h' db d' → d'.n = 8 → d'.size = 96 → LogAt F' h' lb db { S with off := true } rs' rr' → Ext h0 h' → FrL F F' h h' lb → (∀ picks torn, ∃ S2, LgPre (d'.crash picks torn) S2 ∧ (LgTo S S2 S.first S.recs ∨ LgTo S S2 S.first (S.recs ++ R.map (·.2)))) → K 0 12 h') :
    HCalls Try.prog fn_seglog_Log_Append #[lp lb, .slice s.base s.len s.cap] h fun w vh => ∃ c : Int, ∃ c1 : Int, w = .tuple #[.int .i64 c, .int .i64 c1] ∧ K c c1 vh := by
  have h40' : ∀ r ∈ R.map (·.2), r.length ≤ 40 := fun q hq => by obtain ⟨y, hy, rfl⟩ := List.mem_map.1 hq; exact h40 y hy
  refine (logAppend_spec p.dev p.ext.size p.la p.inv p.on hs r ri h1 h2 h40).mono ?_
  have pr := app_put p.inv (R := R.map (·.2)) (by rw [List.length_map]; exact hs) h40'
  generalize appV d S (R.map (·.2)) = X at pr
  rintro _ h3 ⟨rfl, rs', rr', ⟨F', x', la', s', g', y'⟩, _⟩
  have ex : Ext h0 h3 := ⟨by have := p.ext.size; omega, fun b hb => by have := p.ext.size; have := p.lb0; rw [y' b (by omega) (p.dev.F0 hb) (by omega), p.ext.block b hb]⟩
  rcases pr.res with ⟨e, inv, to, off⟩ | ⟨e, e2, e3, hno, hr⟩ | ⟨e, e2, cr⟩
  · rw [e, if_pos rfl]
    exact ⟨_, _, rfl, hK F' h3 rs' rr' _ _ ⟨x', ex, pr.nx.n.trans p.n, pr.nx.size.trans p.size, la', p.lb0, inv, by rw [off]; exact p.on⟩ to ⟨s', g', y'⟩⟩
  · exfalso
    rw [List.length_append, List.length_map] at hr; omega
  · rw [e, if_neg (by omega)]
    rw [e2] at la'
    exact ⟨_, _, rfl, hK12 F' h3 rs' rr' _ x' (pr.nx.n.trans p.n) (pr.nx.size.trans p.size) la' ex ⟨s', g', y'⟩ cr⟩
/-- Trim, upon a device of which the power may go. -/
theorem trimAny {h0 h : Hp} {F : Nat → Nat} {db lb : Nat} {d : Dv} {S : LgV} {rs : Sl} {rr : List (Sl × List UInt8)} (p : LgF h0 h F db lb d S rs rr) (hs : Small S 0) {k : Nat} (h1 : S.first ≤ k) (h2 : k ≤ S.first + S.recs.length) {K : Int → Hp → Prop}
    (hK : ∀ F' h' rs' rr' d' S', LgF h0 h' F' db lb d' S' rs' rr' → LgTo S S' k (S.recs.drop (k - S.first)) → FrL F F' h h' lb → K 0 h')
    (hK12 : ∀ F' h' rs' rr' d', DevAt h0.size F' h' db d' → d'.n = 8 → d'.size = 96 → LogAt F' h' lb db { S with off := true } rs' rr' → Ext h0 h' → FrL F F' h h' lb → (∀ picks torn, ∃ S2, LgPre (d'.crash picks torn) S2 ∧ (LgTo S S2 S.first S.recs ∨ LgTo S S2 k (S.recs.drop (k - S.first)))) → K 12 h') :
    HCalls Try.prog fn_seglog_Log_Trim #[lp lb, .int .i64 (k : Int)] h fun w vh => ∃ c : Int, w = .int .i64 c ∧ K c vh := by
  refine (logTrim_spec p.dev p.ext.size p.la p.inv p.on hs h1 h2).mono ?_
  rintro _ h3 ⟨rfl, rs', rr', ⟨F', x', la', s', g', y'⟩, _⟩
  have ex : Ext h0 h3 := ⟨by have := p.ext.size; omega, fun b hb => by have := p.ext.size; have := p.lb0; rw [y' b (by omega) (p.dev.F0 hb) (by omega), p.ext.block b hb]⟩
  by_cases hk : k = S.first
  · have ht : trimV d S k = (0, d, S) := by unfold trimV; rw [if_pos hk]
    rw [ht] at x' la' ⊢
    exact ⟨_, rfl, hK F' h3 rs' rr' d S ⟨x', ex, p.n, p.size, la', p.lb0, p.inv, p.on⟩ ⟨rfl, rfl, rfl, hk.symm, by rw [hk, Nat.sub_self, List.drop_zero], Nat.le_succ _⟩ ⟨s', g', y'⟩⟩
  · have pr := trim_put p.inv hs h1 h2 hk
    generalize trimV d S k = X at pr x' la'
    rcases pr.res with ⟨e, inv, to, off⟩ | ⟨e, e2, e3, hno, hroom⟩ | ⟨e, e2, cr⟩
    · rw [e]
      exact ⟨_, rfl, hK F' h3 rs' rr' _ _ ⟨x', ex, pr.nx.n.trans p.n, pr.nx.size.trans p.size, la', p.lb0, inv, by rw [off]; exact p.on⟩ to ⟨s', g', y'⟩⟩
    · exfalso
      have hc := p.inv.count
      rw [List.length_drop] at hroom
      have hne : S.recs ≠ [] := by
        intro h
        rw [h] at h2
        simp at h2
        omega
      have hf : flg S.recs = 1 := by
        cases h : S.recs with
        | nil => exact absurd h hne
        | cons a b => rfl
      omega
    · rw [e]
      rw [e2] at la'
      exact ⟨_, rfl, hK12 F' h3 rs' rr' _ x' (pr.nx.n.trans p.n) (pr.nx.size.trans p.size) la' ex ⟨s', g', y'⟩ cr⟩
/-- Open, upon a device of which the power may go. -/
theorem openAnyLg {lo : Nat} {h : Hp} {F : Nat → Nat} {db : Nat} {d : Dv} {S : LgV} (x : DevAt lo F h db d) (n : d.n = 8) (v : LgPre d S) {low high : Nat} (hlw : S.low = low) (hct : S.count = (high - low + 1) / 2) (hlt : low < high) (hhn : high < 8) {K : Option Addr → Int → Hp → Prop}
    (hK : ∀ F' h' d' c e, DevAt lo F' h' db d' → d'.n = d.n → d'.size = d.size → LgPre d' S → Chg F h h' → (∀ b, b < h.size → F' b = F b) → K c e h') :
    HCalls Try.prog fn_seglog_Open #[dp db, .int .i64 (low : Int), .int .i64 (high : Int)] h fun r vh => ∃ c : Option Addr, ∃ c1 : Int, r = .tuple #[.pointer c, .int .i64 c1] ∧ K c c1 vh := by
  refine (logOpen_spec x v hlw hct hlt (by omega)).mono ?_
  rintro _ h1 ⟨q, F', x', g', c', hcase⟩
  obtain ⟨vq, hBq⟩ := reads_pre v q
  let T : LgV := { S with pos := (S.B d).length, off := false }
  have vT : LgPre (withReads d q) T := vq.same vq.wf rfl rfl rfl rfl rfl rfl rfl rfl rfl vq.good fun _ _ _ => rfl
  obtain ⟨m1, m2, m3, m4⟩ := mendV_any vT (show T.pos = (T.B (withReads d q)).length by show (S.B d).length = (S.B (withReads d q)).length; rw [hBq])
  have vS : LgPre (mendV (withReads d q) T).2 S := m3.same m1.wf rfl rfl rfl rfl rfl rfl rfl rfl rfl m3.good fun _ _ _ => rfl
  rcases hcase with ⟨_, rfl⟩ | ⟨_, lb, rs, rr, _, rfl, _, _⟩
  · exact ⟨_, _, rfl, hK F' h1 _ _ _ x' m1.n m1.size vS c' g'⟩
  · exact ⟨_, _, rfl, hK F' h1 _ _ _ x' m1.n m1.size vS c' g'⟩

/-- what should be told, in blocks that are none of the log's. -/
structure XR (h0 h : Hp) (F : Nat → Nat) (lb xb : Nat) (first : Nat) (all : List (List UInt8)) (as_ : Sl) (ar : List (Sl × List UInt8)) : Prop where
  x : XAt h xb none first all as_ ar
  xb0 : F xb = 0 ∧ xb < h.size ∧ xb ≠ lb
  rin : RowsIn (fun b => F b = 0 ∧ b < h.size ∧ b ≠ lb) as_ ar
theorem XR.op {h0 h h' : Hp} {F F' : Nat → Nat} {lb xb : Nat} {first : Nat} {all : List (List UInt8)} {as_ : Sl} {ar : List (Sl × List UInt8)} (x : XR h0 h F lb xb first all as_ ar) (fr : FrL F F' h h' lb) : XR h0 h' F' lb xb first all as_ ar := by
  have hs := fr.size
  refine ⟨⟨x.x.row.eq (fr.block _ x.xb0.2.1 x.xb0.1 x.xb0.2.2), x.x.rows.eq x.rin fun b hb => fr.block b hb.2.1 hb.1 hb.2.2, x.x.eq⟩, ⟨by rw [fr.role _ x.xb0.2.1]; exact x.xb0.1, Nat.lt_of_lt_of_le x.xb0.2.1 hs, x.xb0.2.2⟩, x.rin.mono fun b hb => ⟨by rw [fr.role _ hb.2.1]; exact hb.1, by omega, hb.2.2⟩⟩
theorem XR.ext {h0 h h' : Hp} {F : Nat → Nat} {lb xb : Nat} {first : Nat} {all : List (List UInt8)} {as_ : Sl} {ar : List (Sl × List UInt8)} (x : XR h0 h F lb xb first all as_ ar) (e : Ext h h') : XR h0 h' F lb xb first all as_ ar :=
  x.op ⟨e.size, fun _ _ => rfl, fun b hb _ _ => e.block b hb⟩
theorem Rel.of_same {S : LgV} {first : Nat} {all : List (List UInt8)} (h : sameB first all S = true) : Rel S first all := by
  unfold sameB at h
  obtain ⟨h1, h2, h3⟩ := of_decide_eq_true h
  exact ⟨h1, by omega, h3⟩
theorem Rel.of_to {S S2 : LgV} {first k : Nat} {all : List (List UInt8)} {R : List (List UInt8)} (to : LgTo S S2 k R) (hk : k = first) (hle : first ≤ all.length) (hR : R = all.drop first) : Rel S2 first all := ⟨by rw [to.first, hk], hle, by rw [to.recs, hR]⟩
/-- behind the ops: what a crash may leave. -/
structure AfL (h0 h : Hp) (F : Nat → Nat) (db : Nat) (d : Dv) (xb mb : Nat) (first firstm : Nat) (all allm : List (List UInt8)) : Prop where
  dev : DevAt h0.size F h db d
  ext : Ext h0 h
  n : d.n = 8
  size : d.size = 96
  x : ∃ as_ ar, XAt h xb none first all as_ ar
  m : ∃ as_ ar, XAt h mb none firstm allm as_ ar
  le : first ≤ all.length ∧ firstm ≤ allm.length ∧ all.length ≤ 10000 ∧ allm.length ≤ 10000
  cr : ∀ picks torn, ∃ S2, LgPre (d.crash picks torn) S2 ∧ S2.low = 0 ∧ S2.count = 2 ∧ S2.size = 96 ∧ S2.epoch ≤ 1000 ∧ (Rel S2 first all ∨ Rel S2 firstm allm)
theorem SeglogCrash_law {h : Hp} (s : Sl) (l : List Q4) (w : InQ h s l) (cut : Int) (_ : (Lit.int .i64 cut).wf = true) (sp_ : Sl) (picks : List Int) (wp : InI .i64 h sp_ picks) (st : Sl) (torn : List Int) (wt : InI .i64 h st torn) (sc : Sl) (cuts : List Int) (wc : InI .i64 h sc cuts) :
    HCalls Try.prog fn_scarplaw18_SeglogCrash #[.slice s.base s.len s.cap, .int .i64 cut, .slice sp_.base sp_.len sp_.cap, .slice st.base st.len st.cap, .slice sc.base sc.len sc.cap] h (Yes h) := by
  apply scarplaw18_SeglogCrash_vc
  unfold vcscarplaw18_SeglogCrash
  have hl := w.len
  have hcl := wc.len
  refine (small_spec h s).mono ?_
  rintro _ h' ⟨rfl, hh⟩
  obtain rfl := hh.symm
  refine ⟨_, rfl, IfB.not (IfB.dec (fun a0 => ?_) (fun a0 => aw18 (.refl h)))⟩
  refine IfB.dec (fun _ => aw18 (.refl h)) (fun a1 => IfB.dec (fun _ => aw18 (.refl h)) (fun a2 => IfB.dec (fun _ => aw18 (.refl h)) (fun a3 => IfB.dec (fun _ => aw18 (.refl h)) (fun a4 => IfB.dec (fun _ => aw18 (.refl h)) (fun a5 => ?_)))))
  refine (dev18_spec h).mono ?_
  rintro _ h1 ⟨_, _, rfl, F, db, rfl, rfl, x, e1⟩
  refine ⟨_, _, rfl, .no rfl ?_⟩
  refine newLg x e1 (low := 0) (high := 3) (by omega) (by omega) fun F2 h2 lb rs rr d2 S2 p2 l2 to2 he2 _ _ _ hlb _ => ?_
  refine .no rfl (.no rfl ?_)
  refine (Cut_spec p2.dev (n := cut) (by omega)).mono ?_
  rintro _ h3 ⟨rfl, x3, c3⟩
  refine ⟨rfl, ?_⟩
  have p3 : LgF h h3 F2 db lb (d2.cutAt cut) S2 rs rr := ⟨x3, c3.ext p2.ext fun b hb => p2.dev.F0 hb, p2.n, p2.size, p2.la.chg c3 fun _ _ => rfl, p2.lb0, p2.inv.same x3.1 rfl rfl rfl rfl rfl rfl rfl rfl rfl rfl p2.inv.pre.good fun _ _ _ => rfl, p2.on⟩
  intro h4
  have e4 : Ext h3 h4 := alc_ext _ _ _
  have sz4 : h4.size = h3.size + 1 := size_alc _ _ _
  intro h5
  have e5 : Ext h4 h5 := alc_ext _ _ _
  have sz5 : h5.size = h4.size + 1 := size_alc _ _ _
  have e35 := e4.trans e5
  have p5 := p3.app e35
  have hlb3 := p3.la.row.lt
  have Fz3 : ∀ b, h3.size ≤ b → F2 b = 0 := fun b hb => p3.dev.free hb
  have x5 : XR h h5 F2 lb h3.size 0 [] Sl.nil [] := ⟨⟨(Row.alc h3 _ _ : Row h4 h3.size _).ext e5, RowsR.nil _, rfl⟩, ⟨Fz3 _ (Nat.le_refl _), by omega, by omega⟩, RowsIn.nil _⟩
  have m5 : XR h h5 F2 lb h4.size 0 [] Sl.nil [] := ⟨⟨Row.alc h4 _ _, RowsR.nil _, rfl⟩, ⟨Fz3 _ (by omega), by omega, by omega⟩, RowsIn.nil _⟩
  have rel5 : Rel S2 0 [] := ⟨to2.first, Nat.le_refl _, to2.recs⟩
  refine ⟨fun xv mv h' => ∃ (F : Nat → Nat) (d : Dv) (xb mb first firstm : Nat) (all allm : List (List UInt8)), xv = some ⟨xb, 0, none⟩ ∧ mv = some ⟨mb, 0, none⟩ ∧ AfL h h' F db d xb mb first firstm all allm, ?_, ?_⟩
  · refine ⟨fun xv mv i m h' => ∃ (k : Nat) (F : Nat → Nat) (d : Dv) (S : LgV) (rs : Sl) (rr : List (Sl × List UInt8)) (xb mb first firstm : Nat) (all allm : List (List UInt8)) (as_ asm : Sl) (ar arm : List (Sl × List UInt8)), xv = some ⟨xb, 0, none⟩ ∧ mv = some ⟨mb, 0, none⟩ ∧ i = k ∧ m + k = l.length ∧ LgF h h' F db lb d S rs rr ∧ XR h h' F lb xb first all as_ ar ∧ XR h h' F lb mb firstm allm asm arm ∧ Rel S first all ∧ firstm ≤ allm.length ∧ allm.length ≤ k * 41 ∧ S.low = 0 ∧ S.count = 2 ∧ S.size = 96 ∧ S.epoch ≤ k ∧ all.length ≤ k * 41, l.length,
      ⟨0, F2, _, S2, rs, rr, h3.size, h4.size, 0, 0, [], [], Sl.nil, Sl.nil, [], [], rfl, rfl, rfl, rfl, p5, x5, m5, rel5, by simp, by simp, to2.low, to2.count, to2.size, by omega, by simp⟩, ?_⟩
    rintro _ _ _ _ m h6 ⟨k, F6, d6, S6, rs6, rr6, xb, mb, first, firstm, all, allm, as_, asm, ar, arm, rfl, rfl, rfl, hm, p6, x6, m6, rel6, hfm, ham, hlow, hcount, hsize, hep, hal⟩
    refine IfB.dec (fun hlt => ?_) (fun hge => ?_)
    · have hk : k < l.length := by omega
      have hk60 : k < 60 := by omega
      have hrl := rel6.len
      have hfi := rel6.at_
      have hle := rel6.le
      have getQ : ∀ {h9 : Hp}, Ext h h9 → ∃ a : Addr, s.base = some a ∧ 0 ≤ (k : Int) ∧ (k : Int) < (s.len : Int) ∧ hcell h9 (a.add ((k : Int).toNat * 4)) = some (.int .i64 l[k].a) ∧ hcell h9 ((a.add ((k : Int).toNat * 4)).add 1) = some (.int .i64 l[k].b) ∧ hcell h9 ((a.add ((k : Int).toNat * 4)).add 2) = some (.int .i64 l[k].c) ∧ hcell h9 ((a.add ((k : Int).toNat * 4)).add 3) = some (.int .i64 l[k].d) := fun e9 => w.ix e9 k hk
      obtain ⟨a, ha, hb1, hb2, c0, c1, c2, c3'⟩ := getQ p6.ext
      refine ⟨a, ha, hb1, hb2, _, c1, ?_⟩
      refine (Round_spec l[k].b 41 (by omega) (by omega) h6).mono ?_
      rintro _ h6' ⟨rfl, hh⟩
      obtain rfl := hh.symm
      refine ⟨_, rfl, a, ha, hb1, hb2, _, c2, ?_⟩
      refine (Round_spec l[k].c 41 (by omega) (by omega) h6).mono ?_
      rintro _ h6' ⟨rfl, hh⟩
      obtain rfl := hh.symm
      obtain ⟨N, hN, hN2⟩ : ∃ N : Nat, l[k].b % 41 = N ∧ N ≤ 40 := by
        have hm1 := Int.emod_nonneg l[k].b (show (41 : Int) ≠ 0 by omega)
        have hm2 := Int.emod_lt_of_pos l[k].b (show (0 : Int) < 41 by omega)
        exact ⟨(l[k].b % 41).toNat, by omega, by omega⟩
      obtain ⟨Y, hY, hY2⟩ : ∃ Y : Nat, l[k].c % 41 = Y ∧ Y ≤ 40 := by
        have hm1 := Int.emod_nonneg l[k].c (show (41 : Int) ≠ 0 by omega)
        have hm2 := Int.emod_lt_of_pos l[k].c (show (0 : Int) < 41 by omega)
        exact ⟨(l[k].c % 41).toNat, by omega, by omega⟩
      rw [hN, hY]
      have hasl := x6.x.len.1
      refine ⟨_, rfl, _, rfl, _, x6.x.row.get rfl, _, rfl, as_, x6.x.row.get rfl, ?_⟩
      intro h7
      have e7 : Ext h6 h7 := alc_ext _ _ _
      have sz7 : h7.size = h6.size + 1 := size_alc _ _ _
      refine ⟨e7, ?_⟩
      have Fz : ∀ b, h6.size ≤ b → F6 b = 0 := fun b hb => p6.dev.free hb
      have hlb6 := p6.la.row.lt
      have p7 := p6.app e7
      have x7 := x6.ext e7
      have mk7 : XR h h7 F6 lb h6.size first all as_ ar := ⟨⟨Row.alc h6 _ _, x6.x.rows.ext e7, x6.x.eq⟩, ⟨Fz _ (Nat.le_refl _), by omega, by omega⟩, x6.rin.mono fun b hb => ⟨hb.1, by omega, hb.2.2⟩⟩
      -- what a step makes of it
      refine ⟨fun f h' => ∃ (F : Nat → Nat) (first' : Nat) (all' : List (List UInt8)), first' ≤ all'.length ∧ all'.length ≤ (k + 1) * 41 ∧
        ((f = 0 ∧ ∃ (d : Dv) (S : LgV) (rs : Sl) (rr : List (Sl × List UInt8)) (as' : Sl) (ar' : List (Sl × List UInt8)), LgF h h' F db lb d S rs rr ∧ XR h h' F lb xb first all as_ ar ∧ XR h h' F lb h6.size first' all' as' ar' ∧ Rel S first' all' ∧ S.low = 0 ∧ S.count = 2 ∧ S.size = 96 ∧ S.epoch ≤ k + 1) ∨
         (f = 12 ∧ ∃ (d : Dv) (rs : Sl) (rr : List (Sl × List UInt8)) (S : LgV), LogAt F h' lb db { S with off := true } rs rr ∧ AfL h h' F db d xb h6.size first first' all all')), ?_, ?_⟩
      · have c0' : hcell h7 (a.add ((k : Int).toNat * 4)) = some (.int .i64 l[k].a) := e7.cell c0
        have c3'' : hcell h7 ((a.add ((k : Int).toNat * 4)).add 3) = some (.int .i64 l[k].d) := e7.cell c3'
        -- a Trim, or nothing
        have trims : ∀ {h8 : Hp}, h7 = h8 → ∃ a8 : Addr, s.base = some a8 ∧ 0 ≤ (k : Int) ∧ (k : Int) < (s.len : Int) ∧
            ∃ c24 : Int, hcell h8 (a8.add (((k : Int)).toNat * 4)) = some (.int .i64 c24) ∧
            IfB (c24 == (2 : Int)) (∃ a9 : Addr, (some ⟨xb, 0, none⟩ : Option Addr) = some a9 ∧
              ∃ c25 : Int, hcell h8 (a9.add 1) = some (.int .i64 c25) ∧
              ∃ a10 : Addr, s.base = some a10 ∧ 0 ≤ (k : Int) ∧ (k : Int) < (s.len : Int) ∧
              ∃ c26 : Int, hcell h8 ((a10.add (((k : Int)).toNat * 4)).add 3) = some (.int .i64 c26) ∧
              ∃ a11 : Addr, (some ⟨xb, 0, none⟩ : Option Addr) = some a11 ∧
              ∃ c27 : Sl, hcell h8 (a11.add 2) = some (.slice c27.base c27.len c27.cap) ∧
              ∃ a12 : Addr, (some ⟨xb, 0, none⟩ : Option Addr) = some a12 ∧
              ∃ c28 : Int, hcell h8 (a12.add 1) = some (.int .i64 c28) ∧
              HCalls Try.prog fn_scarpalike_Round #[.int .i64 c26, .int .i64 (iAdd .i64 (iSub .i64 (c27.len : Int) c28) (1 : Int))] h8 fun r15 vh23 =>
              ∃ c29 : Int, r15 = .int .i64 c29 ∧
              Ext h8 vh23 ∧
              ∃ a13 : Addr, (some (nw h6)) = some a13 ∧
              StOk vh23 (a13.add 1) ∧
              Lt (hset vh23 (a13.add 1) (.int .i64 (iAdd .i64 c25 c29))) fun vh24 =>
              ∃ a14 : Addr, (some (nw h6)) = some a14 ∧
              ∃ c30 : Int, hcell vh24 (a14.add 1) = some (.int .i64 c30) ∧
              HCalls Try.prog fn_seglog_Log_Trim #[lp lb, .int .i64 c30] vh24 fun r16 vh25 =>
              ∃ c31 : Int, r16 = .int .i64 c31 ∧
              (∃ (F : Nat → Nat) (first' : Nat) (all' : List (List UInt8)), first' ≤ all'.length ∧ all'.length ≤ (k + 1) * 41 ∧
                ((c31 = 0 ∧ ∃ (d : Dv) (S : LgV) (rs : Sl) (rr : List (Sl × List UInt8)) (as' : Sl) (ar' : List (Sl × List UInt8)), LgF h vh25 F db lb d S rs rr ∧ XR h vh25 F lb xb first all as_ ar ∧ XR h vh25 F lb h6.size first' all' as' ar' ∧ Rel S first' all' ∧ S.low = 0 ∧ S.count = 2 ∧ S.size = 96 ∧ S.epoch ≤ k + 1) ∨
                 (c31 = 12 ∧ ∃ (d : Dv) (rs : Sl) (rr : List (Sl × List UInt8)) (S : LgV), LogAt F vh25 lb db { S with off := true } rs rr ∧ AfL h vh25 F db d xb h6.size first first' all all'))))
            (∃ (F : Nat → Nat) (first' : Nat) (all' : List (List UInt8)), first' ≤ all'.length ∧ all'.length ≤ (k + 1) * 41 ∧
              (((0 : Int) = 0 ∧ ∃ (d : Dv) (S : LgV) (rs : Sl) (rr : List (Sl × List UInt8)) (as' : Sl) (ar' : List (Sl × List UInt8)), LgF h h8 F db lb d S rs rr ∧ XR h h8 F lb xb first all as_ ar ∧ XR h h8 F lb h6.size first' all' as' ar' ∧ Rel S first' all' ∧ S.low = 0 ∧ S.count = 2 ∧ S.size = 96 ∧ S.epoch ≤ k + 1) ∨
               ((0 : Int) = 12 ∧ ∃ (d : Dv) (rs : Sl) (rr : List (Sl × List UInt8)) (S : LgV), LogAt F h8 lb db { S with off := true } rs rr ∧ AfL h h8 F db d xb h6.size first first' all all'))) := by
          rintro _ rfl
          refine ⟨a, ha, hb1, hb2, _, c0', IfB.eq (fun _ => ?_) (fun _ => ?_)⟩
          · refine ⟨_, rfl, _, x7.x.row.get rfl, a, ha, hb1, hb2, _, c3'', _, rfl, as_, x7.x.row.get rfl, _, rfl, _, x7.x.row.get rfl, ?_⟩
            have e1' : iSub .i64 (as_.len : Int) (first : Int) = ((all.length - first : Nat) : Int) := by rw [iSub64 (by omega)]; omega
            have e2' : iAdd .i64 ((all.length - first : Nat) : Int) (1 : Int) = ((all.length - first + 1 : Nat) : Int) := by rw [iAdd64 (by omega)]; push_cast; rfl
            rw [e1', e2']
            refine (Round_spec l[k].d ((all.length - first + 1 : Nat) : Int) (by omega) (by omega) h7).mono ?_
            rintro _ h7' ⟨rfl, hh⟩
            obtain rfl := hh.symm
            obtain ⟨V, hV, hV2⟩ : ∃ V : Nat, l[k].d % ((all.length - first + 1 : Nat) : Int) = V ∧ V ≤ all.length - first := by
              have hm1 := Int.emod_nonneg l[k].d (show ((all.length - first + 1 : Nat) : Int) ≠ 0 by omega)
              have hm2 := Int.emod_lt_of_pos l[k].d (show (0 : Int) < ((all.length - first + 1 : Nat) : Int) by omega)
              exact ⟨(l[k].d % ((all.length - first + 1 : Nat) : Int)).toNat, by omega, by omega⟩
            rw [hV]
            have e3' : iAdd .i64 (first : Int) (V : Int) = ((first + V : Nat) : Int) := by rw [iAdd64 (by omega)]; push_cast; rfl
            refine ⟨_, rfl, .refl _, ?_⟩
            rw [e3']
            obtain ⟨ok8, r8, o8, s8⟩ := mk7.x.row.set (i := 1) (by simp) (.int .i64 ((first + V : Nat) : Int))
            refine ⟨_, rfl, ok8, _, rfl, ?_⟩
            have hnw : (nw h6) = (⟨h6.size, 0, none⟩ : Addr) := rfl
            rw [hnw]
            generalize hset h7 ((⟨h6.size, 0, none⟩ : Addr).add 1) (.int .i64 ((first + V : Nat) : Int)) = h8 at *
            have e68 : Ext h6 h8 := ⟨by omega, fun b hb => by rw [o8 b (by omega), e7.block b hb]⟩
            have p8 := p6.app e68
            have x8 := x6.ext e68
            have m8 : XR h h8 F6 lb h6.size (first + V) all as_ ar := ⟨⟨r8, x6.x.rows.ext e68, x6.x.eq⟩, ⟨Fz _ (Nat.le_refl _), by omega, by omega⟩, x6.rin.mono fun b hb => ⟨hb.1, by omega, hb.2.2⟩⟩
            refine ⟨_, r8.get rfl, ?_⟩
            refine trimAny p8 ⟨by omega, by omega⟩ (k := first + V) (by omega) (by omega) (fun F9 h9 rs9 rr9 d9 S9 p9 to9 fr9 => ?_) (fun F9 h9 rs9 rr9 d9 y9 n9 z9 la9 e9 fr9 cr9 => ?_)
            · refine ⟨F9, first + V, all, by omega, by omega, .inl ⟨rfl, d9, S9, rs9, rr9, as_, ar, p9, x8.op fr9, m8.op fr9, rel6.trim (by omega) (by omega) to9, by rw [to9.low]; exact hlow, by rw [to9.count]; exact hcount, by rw [to9.size]; exact hsize, by have := to9.epoch; omega⟩⟩
            · refine ⟨F9, first + V, all, by omega, by omega, .inr ⟨rfl, d9, rs9, rr9, S6, la9, ⟨y9, e9, n9, z9, ⟨_, _, (x8.op fr9).x⟩, ⟨_, _, (m8.op fr9).x⟩, by omega, fun pp tt => ?_⟩⟩⟩
              obtain ⟨S2, v2, hto⟩ := cr9 pp tt
              refine ⟨S2, v2, ?_⟩
              rcases hto with to | to
              · exact ⟨by rw [to.low]; exact hlow, by rw [to.count]; exact hcount, by rw [to.size]; exact hsize, by have := to.epoch; omega, .inl (rel6.to to)⟩
              · exact ⟨by rw [to.low]; exact hlow, by rw [to.count]; exact hcount, by rw [to.size]; exact hsize, by have := to.epoch; omega, .inr (rel6.trim (by omega) (by omega) to)⟩
          · exact ⟨F6, first, all, hle, by omega, .inl ⟨rfl, d6, S6, rs6, rr6, as_, ar, p7, x7, mk7, rel6, hlow, hcount, hsize, by omega⟩⟩
        refine ⟨a, ha, hb1, hb2, _, c0', IfB.eq (fun hk1 => IfB.dec (fun hN0 => ?_) (fun hN0 => trims rfl)) (fun hk1 => trims rfl)⟩
        refine (lawRoom_spec x7.x hle (by omega) N 4 (by omega) (by omega)).mono ?_
        rintro _ h7' ⟨rfl, hh⟩
        obtain rfl := hh.symm
        refine ⟨_, rfl, IfB.dec (fun hroom => ?_) (fun _ => trims rfl)⟩
        refine ⟨_, rfl, as_, x7.x.row.get rfl, ?_⟩
        rw [hasl]
        refine (recs_spec all.length N Y (by omega) (by omega) (by omega) h7).mono ?_
        rintro _ h8 ⟨t, R, rfl, o8, hR, e8⟩
        refine ⟨t, rfl, ?_⟩
        have hRl : R.length = N := by
          have := congrArg List.length hR
          rw [List.length_map, recsL_length] at this; exact this
        have hRs : ∀ p ∈ R, p.2.length = Y := fun p hp => recsL_size _ N Y _ (by rw [← hR]; exact List.mem_map.2 ⟨p, hp, rfl⟩)
        have s8 := e8.size
        intro h9
        have e9 : Ext h8 h9 := alc_ext _ _ _
        have sz9 : h9.size = h8.size + 1 := size_alc _ _ _
        have e79 := e8.trans e9
        have x9 := x7.ext e79
        refine ⟨_, rfl, as_, x9.x.row.get rfl, ?_⟩
        have own9 : Own h8.size 1 h9 ⟨some (nw h8), 0, 0⟩ [] := Own.alc h8 [] ty_suint8 0 1 rfl
        have har := x9.x.len
        refine AppC_own5 (news := ar.map fun p => slV p.1) rfl own9 (by omega) (by have := x9.x.rows.rd.len; simpa using this) x9.x.rows.rd.rd (slV_all ar) (by simp only; omega) (by simp only; omega) fun u1 h10 o10 l10 k10 y10 b10 => ?_
        have s10 := k10.size
        have e9' : ∀ b, b < h8.size → h10[b]? = h8[b]? := fun b hb => by rw [y10 b (by omega) (fun a ha => by cases ha; show b ≠ h8.size; omega), e9.block b hb]
        have r10 : RowsR h10 t R := o8.rowsR.eq o8.rowsIn fun b hb => e9' b hb.2
        have htl := o8.len
        refine AppC_own5 (news := R.map fun p => slV p.1) rfl o10 (by omega) (by rw [htl]; simp) r10.rd.rd (slV_all R) (by simp only at l10; omega) (by simp only at l10; omega) fun u2 h11 o11 l11 k11 y11 b11 => ?_
        have s11 := k11.size
        have hu1 : ∀ a, u1.base = some a → h8.size ≤ a.block := fun a ha => (o10.lt ha).1
        have e811 : ∀ b, b < h8.size → h11[b]? = h8[b]? := fun b hb => by rw [y11 b (by omega) fun a ha => by have := hu1 a ha; omega, e9' b hb]
        have mrow11 : Row h11 h6.size [.pointer none, .int .i64 (first : Int), .slice as_.base as_.len as_.cap] := (mk7.x.row.ext e8).eq (e811 _ (by omega))
        obtain ⟨ok12, r12, o12, s12⟩ := mrow11.set (i := 2) (by simp) (.slice u2.base u2.len u2.cap)
        refine ⟨_, rfl, ok12, ?_⟩
        have hnw : (nw h6) = (⟨h6.size, 0, none⟩ : Addr) := rfl
        rw [hnw]
        generalize hset h11 ((⟨h6.size, 0, none⟩ : Addr).add 2) (.slice u2.base u2.len u2.cap) = h12 at *
        have same : ∀ b, b < h8.size → b ≠ h6.size → h12[b]? = h8[b]? := fun b hb hne => by rw [o12 b hne, e811 b hb]
        have e612 : Ext h6 h12 := ⟨by omega, fun b hb => by rw [same b (by omega) (by omega), e8.block b (by omega), e7.block b hb]⟩
        have p12 := p6.app e612
        have x12 := x6.ext e612
        have hRb : ∀ p ∈ R, ∀ a, p.1.base = some a → h7.size ≤ a.block ∧ a.block < h8.size := fun p hp a ha => ⟨(o8.base p hp a ha).1, (o8.base p hp a ha).2.1⟩
        have hu2 : ∀ a, u2.base = some a → h8.size ≤ a.block ∧ a.block < h11.size := fun a ha => o11.lt ha
        have R12 : RowsR h12 t R := o8.rowsR.eq o8.rowsIn fun b hb => same b hb.2 (by omega)
        have own12 : Own h8.size 1 h12 u2 ((ar ++ R).map fun p => slV p.1) := by
          have : (ar ++ R).map (fun p => slV p.1) = ar.map (fun p => slV p.1) ++ R.map fun p => slV p.1 := List.map_append
          rw [this]
          exact (show Own h8.size 1 h11 u2 (([] ++ ar.map fun p => slV p.1) ++ R.map fun p => slV p.1) from o11).eq fun a ha => o12 _ (by have := (hu2 a ha).1; omega)
        have m12 : XR h h12 F6 lb h6.size first (all ++ R.map (·.2)) u2 (ar ++ R) := by
          refine ⟨⟨r12, ⟨own12.toRd, fun p hp => ?_⟩, by rw [List.map_append, x6.x.eq]⟩, ⟨Fz _ (Nat.le_refl _), by omega, by omega⟩, ⟨fun a ha => ?_, fun p hp a ha => ?_⟩⟩
          · rcases List.mem_append.1 hp with hp | hp
            · exact x12.x.rows.each p hp
            · exact R12.each p hp
          · have := hu2 a ha
            exact ⟨Fz _ (by omega), by omega, by omega⟩
          · rcases List.mem_append.1 hp with hp | hp
            · exact x12.rin.each p hp a ha
            · have := hRb p hp a ha
              exact ⟨Fz _ (by omega), by omega, by omega⟩
        refine appendAny p12 (R := R) ⟨by omega, by omega⟩ R12 ⟨fun a ha => ?_, fun p hp a ha => ?_⟩ (by omega) (by omega) (fun p hp => by rw [hRs p hp]; omega) (by rw [hcount, hsize]; omega) (fun F9 h13 rs9 rr9 d9 S9 p9 to9 fr9 => ?_) (fun F9 h13 rs9 rr9 d9 y9 n9 z9 la9 e9 fr9 cr9 => ?_)
        · have := o8.own.lt ha
          exact ⟨Fz _ (by omega), by omega, by omega⟩
        · have := hRb p hp a ha
          exact ⟨Fz _ (by omega), by omega, by omega⟩
        · refine ⟨F9, first, all ++ R.map (·.2), by rw [List.length_append]; omega, by rw [List.length_append, List.length_map]; omega, .inl ⟨rfl, d9, S9, rs9, rr9, u2, _, p9, x12.op fr9, m12.op fr9, rel6.app to9, by rw [to9.low]; exact hlow, by rw [to9.count]; exact hcount, by rw [to9.size]; exact hsize, by have := to9.epoch; omega⟩⟩
        · refine ⟨F9, first, all ++ R.map (·.2), by rw [List.length_append]; omega, by rw [List.length_append, List.length_map]; omega, .inr ⟨rfl, d9, rs9, rr9, S6, la9, ⟨y9, e9, n9, z9, ⟨_, _, (x12.op fr9).x⟩, ⟨_, _, (m12.op fr9).x⟩, by rw [List.length_append, List.length_map]; omega, fun pp tt => ?_⟩⟩⟩
          obtain ⟨S2, v2, hto⟩ := cr9 pp tt
          refine ⟨S2, v2, ?_⟩
          rcases hto with to | to
          · exact ⟨by rw [to.low]; exact hlow, by rw [to.count]; exact hcount, by rw [to.size]; exact hsize, by have := to.epoch; omega, .inl (rel6.to to)⟩
          · exact ⟨by rw [to.low]; exact hlow, by rw [to.count]; exact hcount, by rw [to.size]; exact hsize, by have := to.epoch; omega, .inr (rel6.app to)⟩
      · rintro _ f h8 ⟨F8, first', all', hle', hal', ⟨rfl, d8, S8, rs8, rr8, as8, ar8, p8, x8, m8, rel8, q1, q2, q3, q4⟩ | ⟨rfl, d8, rs8, rr8, S8, la8, af⟩⟩
        · refine .no rfl (.no rfl ?_)
          exact ⟨m - 1, by omega, k + 1, F8, d8, S8, rs8, rr8, h6.size, h6.size, first', first', all', all', as8, as8, ar8, ar8, rfl, rfl, by rw [iAdd64 (by omega)]; push_cast; rfl, by omega, p8, m8, m8, rel8, hle', hal', q1, q2, q3, q4, hal'⟩
        · refine .yes rfl ?_
          refine (LogDead_spec la8.row).mono ?_
          rintro _ h8' ⟨rfl, hh⟩
          obtain rfl := hh.symm
          exact ⟨_, rfl, .no rfl ⟨F8, d8, xb, h6.size, first, first', all, all', rfl, rfl, af⟩⟩
    · have hle := rel6.le
      refine ⟨F6, d6, xb, mb, first, firstm, all, allm, rfl, rfl, ⟨p6.dev, p6.ext, p6.n, p6.size, ⟨_, _, x6.x⟩, ⟨_, _, m6.x⟩, by omega, fun pp tt => ⟨S6, p6.inv.pre.same (p6.dev.1.crash pp tt) rfl rfl rfl rfl rfl rfl rfl rfl rfl (crash_good p6.dev.1 pp tt) fun j _ _ => crash_keep p6.dev.1 pp tt (p6.inv.pre.good j), hlow, hcount, hsize, by omega, .inl rel6⟩⟩⟩
  rintro _ _ _ h6 ⟨F6, d6, xb, mb, first, firstm, all, allm, rfl, rfl, af⟩
  obtain ⟨as_, ar, xx⟩ := af.x
  obtain ⟨asm, arm, xm⟩ := af.m
  obtain ⟨hle1, hle2, hle3, hle4⟩ := af.le
  refine (Crash_spec af.dev wp.len (wp.rd.ext af.ext) wt.len (wt.rd.ext af.ext)).mono ?_
  rintro _ h7 ⟨e7, F7, cb, rfl, x7⟩
  refine ⟨_, rfl, ?_⟩
  obtain ⟨S2, v2, q1, q2, q3, q4, hrel⟩ := af.cr picks torn
  have okc := crash_ok af.dev.1 picks torn
  refine ⟨fun dv i m h' => ∃ (k db : Nat) (F : Nat → Nat) (d : Dv), dv = some ⟨db, 0, none⟩ ∧ i = k ∧ m + k = cuts.length ∧ DevAt h6.size F h' db d ∧ d.n = 8 ∧ d.size = 96 ∧ Live d ∧ LgPre d S2 ∧ Ext h6 h', cuts.length,
    ⟨0, cb, F7, _, rfl, rfl, rfl, x7, okc.n.trans af.n, okc.size.trans af.size, okc.live, v2, e7⟩, ?_⟩
  rintro _ _ _ m h8 ⟨k, db8, F8, d8, rfl, rfl, hm, x8, n8, z8, l8, v8, e8⟩
  have e08 := af.ext.trans e8
  refine IfB.dec (fun hlt => ?_) (fun hge => ?_)
  · have hk : k < cuts.length := by omega
    obtain ⟨a, ha, hc'⟩ := (wc.rd.ext e08).get (i := k) (by simpa using hk)
    refine ⟨a, ha, by omega, by omega, cuts[k], by simpa using hc', ?_⟩
    refine (Round_spec cuts[k] 20 (by omega) (by omega) h8).mono ?_
    rintro _ h8' ⟨rfl, hh⟩
    obtain rfl := hh.symm
    have hm1 := Int.emod_nonneg cuts[k] (show (20 : Int) ≠ 0 by omega)
    have hm2 := Int.emod_lt_of_pos cuts[k] (show (0 : Int) < 20 by omega)
    refine ⟨_, rfl, ?_⟩
    refine (Cut_spec x8 (n := cuts[k] % 20) (by omega)).mono ?_
    rintro _ h9 ⟨rfl, x9, c9⟩
    refine ⟨rfl, ?_⟩
    have v9 : LgPre (d8.cutAt (cuts[k] % 20)) S2 := v8.same x9.1 rfl rfl rfl rfl rfl rfl rfl rfl rfl v8.good fun _ _ _ => rfl
    have e9 : Ext h6 h9 := c9.ext e8 fun b hb => x8.F0 hb
    refine openAnyLg x9 n8 v9 (low := 0) (high := 3) q1 q2 (by omega) (by omega) fun F10 h10 d10 c10 er10 x10 n10 z10 v10 ch10 g10 => ?_
    have e10 : Ext h6 h10 := ch10.ext e9 fun b hb => x8.F0 hb
    have e010 := af.ext.trans e10
    refine (Crash_spec x10 wp.len (wp.rd.ext e010) wt.len (wt.rd.ext e010)).mono ?_
    rintro _ h11 ⟨e11, F11, cb11, rfl, x11⟩
    refine ⟨_, rfl, ?_⟩
    have ok11 := crash_ok x10.1 picks torn
    have n10' : d10.n = 8 := n10.trans n8
    have z10' : d10.size = 96 := z10.trans z8
    exact ⟨m - 1, by omega, k + 1, cb11, F11, _, rfl, by rw [iAdd64 (by omega)]; push_cast; rfl, by omega, x11.low (by have := e10.size; omega), ok11.n.trans n10', ok11.size.trans z10', ok11.live, v10.same x11.1 rfl rfl rfl rfl rfl rfl rfl rfl rfl (crash_good x10.1 picks torn) fun j _ _ => crash_keep x10.1 picks torn (v10.good j), e10.trans e11⟩
  · -- the last opening
    have s06 := af.ext.size
    have x8' : DevAt h.size F8 h8 db8 d8 := x8.low s06
    refine openLg x8' e08 n8 z8 l8 v8 (low := 0) (high := 3) q1 q2 (by omega) (by omega) fun F9 h9 lt9 rs9 rr9 d9 S9 p9 l9 to9 he9 ho9 c9 gF9 hlt9 ri9 => ?_
    have e9 : Ext h6 h9 := c9.ext e8 fun b hb => x8.F0 hb
    have x9 := xx.ext e9
    have m9 := xm.ext e9
    have hrel9 : Rel S9 first all ∨ Rel S9 firstm allm := by
      rcases hrel with h | h
      · exact .inl (h.to to9)
      · exact .inr (h.to to9)
    have hb9 : S9.first + S9.recs.length ≤ 1000000 := by
      rcases hrel9 with h | h
      · rw [h.len]; omega
      · rw [h.len]; omega
    have h409 := p9.inv.pre.recs40
    have smx : ∀ {h' : Hp}, Ext h9 h' → HCalls Try.prog fn_scarplaw18_log_same #[lp xb, lp lt9] h' fun r vh => r = .bool (sameB first all S9) ∧ Ext h' vh := fun e' => same_spec (p9.la.ext e') (x9.ext e') hb9 h409 hle1 (by omega)
    have smm : ∀ {h' : Hp}, Ext h9 h' → HCalls Try.prog fn_scarplaw18_log_same #[lp mb, lp lt9] h' fun r vh => r = .bool (sameB firstm allm S9) ∧ Ext h' vh := fun e' => same_spec (p9.la.ext e') (m9.ext e') hb9 h409 hle2 (by omega)
    refine ⟨fun h' => Ext h9 h', ?_, ?_⟩
    · refine .no rfl (.no rfl ?_)
      refine (smx (.refl h9)).mono ?_
      rintro _ h10 ⟨rfl, e10⟩
      refine ⟨_, rfl, IfB.not (IfB.intro (fun hyes => e10) (fun hno => ?_))⟩
      refine (smm e10).mono ?_
      rintro _ h11 ⟨rfl, e11⟩
      have : sameB firstm allm S9 = true := by
        rcases hrel9 with h | h
        · rw [h.same] at hno; cases hno
        · exact h.same
      exact ⟨_, rfl, .no (by rw [this]; rfl) (e10.trans e11)⟩
    rintro _ h10 e10
    refine ⟨fun yv h' => ∃ (yb firsty : Nat) (ally : List (List UInt8)) (asy : Sl) (ary : List (Sl × List UInt8)), yv = some ⟨yb, 0, none⟩ ∧ Ext h9 h' ∧ XAt h9 yb none firsty ally asy ary ∧ Rel S9 firsty ally ∧ ally.length ≤ 10000, ?_, ?_⟩
    · refine (smx e10).mono ?_
      rintro _ h11 ⟨rfl, e11⟩
      refine ⟨_, rfl, IfB.not (IfB.intro (fun hyes => ?_) (fun hno => ?_))⟩
      · exact ⟨xb, first, all, as_, ar, rfl, e10.trans e11, x9, Rel.of_same hyes, hle3⟩
      · refine ⟨mb, firstm, allm, asm, arm, rfl, e10.trans e11, m9, ?_, hle4⟩
        rcases hrel9 with h | h
        · rw [h.same] at hno; cases hno
        · exact h
    rintro _ _ h11 ⟨yb, firsty, ally, asy, ary, rfl, e11, xy, rely, hly⟩
    have e011 := p9.ext.trans e11
    have p11 := p9.app e11
    refine (Crash_spec p11.dev wp.len (wp.rd.ext e011) wt.len (wt.rd.ext e011)).mono ?_
    rintro _ h12 ⟨e12, F12, cb12, rfl, x12⟩
    refine ⟨_, rfl, ?_⟩
    obtain ⟨sm12, g12⟩ := crash_same l9 p11.dev.1 p11.inv.pre.good picks torn
    have s011 := e011.size
    have v12 : LgPre (d9.crash picks torn) S9 := p11.inv.pre.same x12.1 rfl rfl rfl rfl rfl rfl rfl sm12.ok.size sm12.ok.n g12 fun j _ _ => sm12.rows j
    refine openLg (x12.low s011) (e011.trans e12) (sm12.ok.n.trans p11.n) (sm12.ok.size.trans p11.size) sm12.ok.live v12 (low := 0) (high := 3) (by rw [to9.low]; exact q1) (by rw [to9.count]; exact q2) (by omega) (by omega) fun F13 h13 lu13 rs13 rr13 d13 S13 p13 l13 to13 he13 ho13 c13 gF13 hlu13 ri13 => ?_
    refine .yes rfl (.yes rfl ?_)
    have e13 : Ext h11 h13 := c13.ext e12 fun b hb => x12.F0 hb
    have rel13 : Rel S13 firsty ally := rely.to to13
    refine (same_spec p13.la (xy.ext (e11.trans e13)) (by rw [rel13.len]; omega) p13.inv.pre.recs40 rel13.le (by omega)).mono ?_
    rintro _ h14 ⟨rfl, e14⟩
    exact ⟨_, rfl, .yes rel13.same (aw18 (p13.ext.trans e14))⟩

end Go.Proofs.Ytippdkokbhejmaa
