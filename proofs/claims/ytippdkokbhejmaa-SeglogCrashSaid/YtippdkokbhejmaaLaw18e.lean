/-
  SeglogApart (chapter 18).
-/
import Derived.Test.YtippdkokbhejmaaLaw18d
namespace Go.Proofs.Ytippdkokbhejmaa
set_option linter.unusedVariables false
set_option linter.unusedSimpArgs false

/-- a log beside which another one works. -/
theorem PL.other {h0 h h' : Hp} {F F' T T' : Nat → Nat} {i db lb lb2 : Nat} {d d' : Dv} {S : LgV} {rs : Sl} {rr : List (Sl × List UInt8)} (g : PL h0 h F T i db lb d S rs rr) (x' : DevAt h0.size F' h' db d') (ex : Ext h0 h') (hn : d'.n = d.n) (hz : d'.size = d.size) (fr : FrL F F' h h' lb2) (hlb2 : T lb2 ≠ i) (gt : ∀ b, b < h.size → T' b = T b) (good : AllGood d') (hr : ∀ j, S.low ≤ j → j < S.low + 2 * S.count → (d'.z j).rows = (d.z j).rows) : PL h0 h' F' T' i db lb d' S rs rr := by
  have hlb := g.p.la.row.lt
  have r2 : RowsIn (fun b => F b = 0 ∧ b < h.size ∧ b ≠ lb ∧ T b = i) rs rr := ⟨fun a ha => ⟨(g.p.la.rin.out a ha).1, (g.p.la.rin.out a ha).2.1, (g.p.la.rin.out a ha).2.2, g.rt.out a ha⟩, fun p hp a ha => ⟨(g.p.la.rin.each p hp a ha).1, (g.p.la.rin.each p hp a ha).2.1, (g.p.la.rin.each p hp a ha).2.2, g.rt.each p hp a ha⟩⟩
  have same : ∀ b, b < h.size → F b = 0 → T b = i → h'[b]? = h[b]? := fun b hb hF hT => fr.block b hb hF fun e => hlb2 (by rw [← e]; exact hT)
  have hs := fr.size
  refine ⟨⟨x', ex, hn.trans g.p.n, hz.trans g.p.size, ⟨by rw [fr.role _ hlb]; exact g.p.la.role, g.p.la.row.eq (same _ hlb g.p.la.role g.lt), g.p.la.recs.eq r2 fun b hb => same b hb.2.1 hb.1 hb.2.2.2, r2.mono fun b hb => ⟨by rw [fr.role _ hb.2.1]; exact hb.1, by omega, hb.2.2.1⟩, g.p.la.eq⟩, g.p.lb0, g.p.inv.same x'.1 rfl rfl rfl rfl rfl rfl rfl rfl hz hn good hr, g.p.on⟩, by rw [gt _ hlb]; exact g.lt, r2.mono fun b hb => by rw [gt _ hb.2.1]; exact hb.2.2.2⟩
/-- a record is appended to one of two logs, and to what it should tell. -/
theorem twoStep {h0 h : Hp} {F T : Nat → Nat} {i j i2 j2 db lb xb lb2 xb2 : Nat} {d : Dv} {S S2 : LgV} {rs rs2 : Sl} {rr rr2 : List (Sl × List UInt8)} {q q2 : Option Addr} {all all2 : List (List UInt8)} {as_ as2 t : Sl} {ar ar2 R : List (Sl × List UInt8)} (g : PL h0 h F T i db lb d S rs rr) (l : Live d) (x : XS h0 h F T j xb q 0 all as_ ar) (g2 : PL h0 h F T i2 db lb2 d S2 rs2 rr2) (x2 : XS h0 h F T j2 xb2 q2 0 all2 as2 ar2)
    (hij : i ≠ j ∧ i ≠ i2 ∧ i ≠ j2 ∧ j ≠ i2 ∧ j ≠ j2) (rel : Rel S 0 all) (hep : S.epoch ≤ 50000) (hal : all.length + R.length ≤ 50000) (apart : ∀ k, S2.low ≤ k → k < S2.low + 2 * S2.count → (k < S.low ∨ S.low + 2 * S.count ≤ k))
    (y : RowsJ h0 h F T j xb as_ t R) (h1 : 1 ≤ R.length) (h2 : R.length ≤ 40) (h40 : ∀ p ∈ R, p.2.length ≤ 40) (hroom : S.recs.length + R.length + 2 ≤ S.count * S.size) {Bad K : Hp → Prop}
    (hK : ∀ F' T' h' d' S' rs' rr' as' ar', PL h0 h' F' T' i db lb d' S' rs' rr' → Live d' → XS h0 h' F' T' j xb q 0 (all ++ R.map (·.2)) as' ar' → PL h0 h' F' T' i2 db lb2 d' S2 rs2 rr2 → XS h0 h' F' T' j2 xb2 q2 0 all2 as2 ar2 → Rel S' 0 (all ++ R.map (·.2)) → LgTo S S' S.first (S.recs ++ R.map (·.2)) → K h') :
    HCalls Try.prog fn_seglog_Log_Append #[lp lb, .slice t.base t.len t.cap] h fun r8 vh11 =>
      ∃ c12 : Int, ∃ c13 : Int, r8 = .tuple #[.int .i64 c12, .int .i64 c13] ∧
      IfB (c13 != (0 : Int)) (Bad vh11)
      (∃ a1 : Addr, (some ⟨xb, 0, none⟩ : Option Addr) = some a1 ∧
        ∃ c14 : Sl, hcell vh11 (a1.add 2) = some (.slice c14.base c14.len c14.cap) ∧
        AppC ty_suint8 1 24 #[.slice Sl.nil.base Sl.nil.len Sl.nil.cap] c14 t vh11 fun s vh12 =>
        ∃ a2 : Addr, (some ⟨xb, 0, none⟩ : Option Addr) = some a2 ∧
        StOk vh12 (a2.add 2) ∧
        Lt (hset vh12 (a2.add 2) (.slice s.base s.len s.cap)) fun vh13 => K vh13) := by
  obtain ⟨n1, n2, n3, n4, n5⟩ := hij
  refine appStep g l x n1 rel (by omega) (by omega) y h1 h2 h40 hroom fun F7 h7 d7 S7 rs7 rr7 g7 l7 x7 y7 rel7 to7 ho7 fr7 => ?_
  refine .no rfl ⟨_, rfl, as_, x7.x.row.get rfl, ?_⟩
  have g27 : PL h0 h7 F7 (retag T h.size i) i2 db lb2 d7 S2 rs2 rr2 := g2.other g7.p.dev g7.p.ext (g7.p.n.trans g.p.n.symm) (g7.p.size.trans g.p.size.symm) fr7 (by rw [g.lt]; exact n2) (fun b hb => retag_old hb) g7.p.inv.pre.good fun k hk1 hk2 => ho7 k (apart k hk1 hk2)
  have x27 : XS h0 h7 F7 (retag T h.size i) j2 xb2 q2 0 all2 as2 ar2 := x2.op fr7 (by rw [g.lt]; exact n3) fun b hb => retag_old hb
  refine pushStep g7 x7 n1 y7 (by omega) fun h8 as8 g8 x8 s8 y8 ex8 => ?_
  refine hK F7 _ h8 d7 S7 rs7 rr7 as8 _ g8 l7 x8 (g27.move s8 (fun b hb => retag_old hb) (fun b hb => y8 b (g7.p.dev.dom b hb).2 (.inr hb)) (fun b hb hT => y8 b hb (.inl (by rw [hT]; exact Ne.symm n4))) ex8) (x27.move s8 (fun _ _ => rfl) (fun b hb => retag_old hb) fun b hb _ hT => y8 b hb (.inl (by rw [hT]; exact Ne.symm n5))) rel7 to7
theorem SeglogApart_law {h : Hp} (s : Sl) (l : List Int) (w : InI .i64 h s l) (sp_ : Sl) (picks : List Int) (wp : InI .i64 h sp_ picks) :
    HCalls Try.prog fn_scarplaw18_SeglogApart #[.slice s.base s.len s.cap, .slice sp_.base sp_.len sp_.cap] h (Yes h) := by
  apply scarplaw18_SeglogApart_vc
  unfold vcscarplaw18_SeglogApart
  have hl := w.len
  refine IfB.dec (fun _ => aw18 (.refl h)) (fun a1 => IfB.dec (fun _ => aw18 (.refl h)) (fun a2 => ?_))
  refine (dev18_spec h).mono ?_
  rintro _ h1 ⟨_, _, rfl, F, db, rfl, rfl, x, e1⟩
  refine ⟨_, _, rfl, .no rfl ?_⟩
  refine newLg x e1 (low := 0) (high := 2) (by omega) (by omega) fun F2 h2 la rsa rra d2 Sa p2 l2 toa hea ho2 _ _ hla ria => ?_
  have preb : LgPre d2 (lgNew 3 2) := (lgNew_inv (low := 3) (count := 2) (by omega) (by omega)).pre.same p2.dev.1 rfl rfl rfl rfl rfl rfl rfl p2.size p2.n p2.inv.pre.good fun j h1 h2 => by
    have h1' : 3 ≤ j := h1
    rw [ho2 j (.inr (by omega)), Dv.new_z]
  refine openLg p2.dev p2.ext p2.n p2.size l2 preb (low := 3) (high := 7) rfl rfl (by omega) (by omega) fun F3 h3 lb rsb rrb d3 Sb p3 l3 tob heb ho3 c3 gF3 hlb rib => ?_
  refine .no rfl (.no rfl (.no rfl (.no rfl ?_)))
  intro h4
  have e4 : Ext h3 h4 := alc_ext _ _ _
  have sz4 : h4.size = h3.size + 1 := size_alc _ _ _
  intro h5
  have e5 : Ext h4 h5 := alc_ext _ _ _
  have sz5 : h5.size = h4.size + 1 := size_alc _ _ _
  have e35 := e4.trans e5
  have s01 := e1.size
  have s02 := p2.ext.size
  have s03 := p3.ext.size
  have s23 := c3.size
  have hla2 := p2.la.row.lt
  have hlb3 := p3.la.row.lt
  have hlowa : Sa.low = 0 := toa.low
  have hcnta : Sa.count = 1 := toa.count
  have hlowb : Sb.low = 3 := tob.low
  have hcntb : Sb.count = 2 := tob.count
  have pa3 : LgF h h3 F3 db la d3 Sa rsa rra := ⟨p3.dev, p3.ext, p3.n, p3.size, p2.la.chg c3 gF3, p2.lb0, p2.inv.same p3.dev.1 rfl rfl rfl rfl rfl rfl rfl rfl (p3.size.trans p2.size.symm) (p3.n.trans p2.n.symm) p3.inv.pre.good fun j h1 h2 => ho3 j (.inl (by show j < 3; omega)), p2.on⟩
  let T3 : Nat → Nat := fun b => if b < h2.size then 1 else if b < h3.size then 2 else if b = h3.size then 3 else 4
  have Ta : ∀ b, b < h2.size → T3 b = 1 := fun b hb => if_pos hb
  have Tb : ∀ b, h2.size ≤ b → b < h3.size → T3 b = 2 := fun b h1 h2 => by show (if b < _ then _ else _) = 2; rw [if_neg (by omega), if_pos h2]
  have ga5 : PL h h5 F3 T3 1 db la d3 Sa rsa rra := ⟨pa3.app e35, Ta _ hla2, ⟨fun a ha => Ta _ (p2.la.rin.out a ha).2.1, fun p hp a ha => Ta _ (p2.la.rin.each p hp a ha).2.1⟩⟩
  have gb5 : PL h h5 F3 T3 2 db lb d3 Sb rsb rrb := ⟨p3.app e35, Tb _ hlb hlb3, ⟨fun a ha => Tb _ (rib.out a ha) (p3.la.rin.out a ha).2.1, fun p hp a ha => Tb _ (rib.each p hp a ha) (p3.la.rin.each p hp a ha).2.1⟩⟩
  have Fz3 : ∀ b, h3.size ≤ b → F3 b = 0 := fun b hb => p3.dev.free hb
  have xa5 : XS h h5 F3 T3 3 h3.size none 0 [] Sl.nil [] := ⟨⟨(Row.alc h3 _ _ : Row h4 h3.size _).ext e5, RowsR.nil _, rfl⟩, Own.nil _ _ _, ⟨by omega, Fz3 _ (Nat.le_refl _), by show (if _ then _ else _) = 3; rw [if_neg (by omega), if_neg (by omega), if_pos rfl]⟩, fun a ha => (by cases ha), fun p hp => by simp at hp⟩
  have xb5 : XS h h5 F3 T3 4 h4.size none 0 [] Sl.nil [] := ⟨⟨Row.alc h4 _ _, RowsR.nil _, rfl⟩, Own.nil _ _ _, ⟨by omega, Fz3 _ (by omega), by show (if _ then _ else _) = 4; rw [if_neg (by omega), if_neg (by omega), if_neg (by omega)]⟩, fun a ha => (by cases ha), fun p hp => by simp at hp⟩
  have rela : Rel Sa 0 [] := ⟨toa.first, Nat.le_refl _, toa.recs⟩
  have relb : Rel Sb 0 [] := ⟨by rw [tob.first]; rfl, Nat.le_refl _, by rw [tob.recs]; rfl⟩
  refine ⟨fun i m h' => ∃ (k : Nat) (F T : Nat → Nat) (d : Dv) (Sa Sb : LgV) (rsa rsb : Sl) (rra rrb : List (Sl × List UInt8)) (alla allb : List (List UInt8)) (asa asb : Sl) (ara arb : List (Sl × List UInt8)), i = k ∧ m + k = l.length ∧ Live d ∧ PL h h' F T 1 db la d Sa rsa rra ∧ PL h h' F T 2 db lb d Sb rsb rrb ∧ XS h h' F T 3 h3.size none 0 alla asa ara ∧ XS h h' F T 4 h4.size none 0 allb asb arb ∧ Rel Sa 0 alla ∧ Rel Sb 0 allb ∧
      Sa.low = 0 ∧ Sa.count = 1 ∧ Sa.size = 96 ∧ Sb.low = 3 ∧ Sb.count = 2 ∧ Sb.size = 96 ∧ Sa.epoch ≤ k ∧ Sb.epoch ≤ k ∧ alla.length ≤ k ∧ allb.length ≤ k, l.length,
    ⟨0, F3, T3, d3, Sa, Sb, rsa, rsb, rra, rrb, [], [], Sl.nil, Sl.nil, [], [], rfl, rfl, l3, ga5, gb5, xa5, xb5, rela, relb, hlowa, hcnta, toa.size, hlowb, hcntb, tob.size, by omega, by rw [heb]; exact Nat.le_refl _, by simp, by simp⟩, ?_⟩
  rintro _ _ m h6 ⟨k, F6, T6, d6, Sa, Sb, rsa, rsb, rra, rrb, alla, allb, asa, asb, ara, arb, rfl, hm, l6, ga, gb, xa, xb, rela, relb, q1, q2, q3, q4, q5, q6, q7, q8, q9, q10⟩
  refine IfB.dec (fun hlt => ?_) (fun hge => ?_)
  · have hk : k < l.length := by omega
    obtain ⟨a, ha, hc'⟩ := (w.rd.ext ga.p.ext).get (i := k) (by simpa using hk)
    refine ⟨a, ha, by omega, by omega, l[k], by simpa using hc', ?_⟩
    refine (Round_spec l[k] 41 (by omega) (by omega) h6).mono ?_
    rintro _ h6' ⟨rfl, hh⟩
    obtain rfl := hh.symm
    obtain ⟨Y, hY, hY2⟩ : ∃ Y : Nat, l[k] % 41 = Y ∧ Y ≤ 40 := by
      have hm1 := Int.emod_nonneg l[k] (show (41 : Int) ≠ 0 by omega)
      have hm2 := Int.emod_lt_of_pos l[k] (show (0 : Int) < 41 by omega)
      exact ⟨(l[k] % 41).toNat, by omega, by omega⟩
    rw [hY]
    refine ⟨_, rfl, ?_⟩
    refine (recs_spec k 1 Y (by omega) (by omega) (by omega) h6).mono ?_
    rintro _ h7 ⟨t, R, rfl, o7, hR, e7⟩
    have hRl : R.length = 1 := by
      have := congrArg List.length hR
      rw [List.length_map, recsL_length] at this; exact this
    have hRs : ∀ p ∈ R, p.2.length = Y := fun p hp => recsL_size _ 1 Y _ (by rw [← hR]; exact List.mem_map.2 ⟨p, hp, rfl⟩)
    have h40 : ∀ p ∈ R, p.2.length ≤ 40 := fun p hp => by rw [hRs p hp]; exact hY2
    refine ⟨t, rfl, by omega, ?_⟩
    have Fz : ∀ b, h6.size ≤ b → F6 b = 0 := fun b hb => ga.p.dev.free hb
    have ek : iAdd .i64 (k : Int) (1 : Int) = ((k + 1 : Nat) : Int) := by rw [iAdd64 (by omega)]; push_cast; rfl
    have hra := rela.len
    have hrb := relb.len
    have ta := rela.at_
    have tb := relb.at_
    have ga7 : ∀ z, PL h h7 F6 (retag T6 h6.size z) 1 db la d6 Sa rsa rra := fun z => ga.ext e7 fun b hb => retag_old hb
    have gb7 : ∀ z, PL h h7 F6 (retag T6 h6.size z) 2 db lb d6 Sb rsb rrb := fun z => gb.ext e7 fun b hb => retag_old hb
    have xa7 : ∀ z, XS h h7 F6 (retag T6 h6.size z) 3 h3.size none 0 alla asa ara := fun z => xa.ext e7 fun b hb => retag_old hb
    have xb7 : ∀ z, XS h h7 F6 (retag T6 h6.size z) 4 h4.size none 0 allb asb arb := fun z => xb.ext e7 fun b hb => retag_old hb
    have stay : ∃ n2, n2 < m ∧ ∃ (k' : Nat) (F T : Nat → Nat) (d : Dv) (Sa Sb : LgV) (rsa rsb : Sl) (rra rrb : List (Sl × List UInt8)) (alla allb : List (List UInt8)) (asa asb : Sl) (ara arb : List (Sl × List UInt8)), iAdd .i64 (k : Int) (1 : Int) = k' ∧ n2 + k' = l.length ∧ Live d ∧ PL h h7 F T 1 db la d Sa rsa rra ∧ PL h h7 F T 2 db lb d Sb rsb rrb ∧ XS h h7 F T 3 h3.size none 0 alla asa ara ∧ XS h h7 F T 4 h4.size none 0 allb asb arb ∧ Rel Sa 0 alla ∧ Rel Sb 0 allb ∧
      Sa.low = 0 ∧ Sa.count = 1 ∧ Sa.size = 96 ∧ Sb.low = 3 ∧ Sb.count = 2 ∧ Sb.size = 96 ∧ Sa.epoch ≤ k' ∧ Sb.epoch ≤ k' ∧ alla.length ≤ k' ∧ allb.length ≤ k' :=
      ⟨m - 1, by omega, k + 1, F6, _, d6, Sa, Sb, rsa, rsb, rra, rrb, alla, allb, asa, asb, ara, arb, ek, by omega, l6, ga7 0, gb7 0, xa7 0, xb7 0, rela, relb, q1, q2, q3, q4, q5, q6, by omega, by omega, by omega, by omega⟩
    -- the second log
    have second : HCalls Try.prog fn_scarplaw18_log_room #[.pointer (some (nw h4)), .int .i64 (1 : Int), .int .i64 (5 : Int)] h7 fun r11 vh18 =>
        ∃ c19 : Bool, r11 = .bool c19 ∧
        IfB c19 (HCalls Try.prog fn_seglog_Log_Append #[lp lb, .slice t.base t.len t.cap] vh18 fun r12 vh19 =>
          ∃ c20 : Int, ∃ c21 : Int, r12 = .tuple #[.int .i64 c20, .int .i64 c21] ∧
          IfB (c21 != (0 : Int)) (Yes h (.bool false) vh19)
          (∃ a5 : Addr, (some (nw h4)) = some a5 ∧
            ∃ c22 : Sl, hcell vh19 (a5.add 2) = some (.slice c22.base c22.len c22.cap) ∧
            AppC ty_suint8 1 24 #[.slice Sl.nil.base Sl.nil.len Sl.nil.cap] c22 t vh19 fun s2 vh20 =>
            ∃ a6 : Addr, (some (nw h4)) = some a6 ∧
            StOk vh20 (a6.add 2) ∧
            Lt (hset vh20 (a6.add 2) (.slice s2.base s2.len s2.cap)) fun vh21 =>
            ∃ n2, n2 < m ∧ ∃ (k' : Nat) (F T : Nat → Nat) (d : Dv) (Sa Sb : LgV) (rsa rsb : Sl) (rra rrb : List (Sl × List UInt8)) (alla allb : List (List UInt8)) (asa asb : Sl) (ara arb : List (Sl × List UInt8)), iAdd .i64 (k : Int) (1 : Int) = k' ∧ n2 + k' = l.length ∧ Live d ∧ PL h vh21 F T 1 db la d Sa rsa rra ∧ PL h vh21 F T 2 db lb d Sb rsb rrb ∧ XS h vh21 F T 3 h3.size none 0 alla asa ara ∧ XS h vh21 F T 4 h4.size none 0 allb asb arb ∧ Rel Sa 0 alla ∧ Rel Sb 0 allb ∧
              Sa.low = 0 ∧ Sa.count = 1 ∧ Sa.size = 96 ∧ Sb.low = 3 ∧ Sb.count = 2 ∧ Sb.size = 96 ∧ Sa.epoch ≤ k' ∧ Sb.epoch ≤ k' ∧ alla.length ≤ k' ∧ allb.length ≤ k'))
        (∃ n2, n2 < m ∧ ∃ (k' : Nat) (F T : Nat → Nat) (d : Dv) (Sa Sb : LgV) (rsa rsb : Sl) (rra rrb : List (Sl × List UInt8)) (alla allb : List (List UInt8)) (asa asb : Sl) (ara arb : List (Sl × List UInt8)), iAdd .i64 (k : Int) (1 : Int) = k' ∧ n2 + k' = l.length ∧ Live d ∧ PL h vh18 F T 1 db la d Sa rsa rra ∧ PL h vh18 F T 2 db lb d Sb rsb rrb ∧ XS h vh18 F T 3 h3.size none 0 alla asa ara ∧ XS h vh18 F T 4 h4.size none 0 allb asb arb ∧ Rel Sa 0 alla ∧ Rel Sb 0 allb ∧
          Sa.low = 0 ∧ Sa.count = 1 ∧ Sa.size = 96 ∧ Sb.low = 3 ∧ Sb.count = 2 ∧ Sb.size = 96 ∧ Sa.epoch ≤ k' ∧ Sb.epoch ≤ k' ∧ alla.length ≤ k' ∧ allb.length ≤ k') := by
      refine (lawRoom_spec (xb7 0).x relb.le (by omega) 1 5 (by omega) (by omega)).mono ?_
      rintro _ h7' ⟨rfl, hh⟩
      obtain rfl := hh.symm
      refine ⟨_, rfl, IfB.dec (fun hroom => ?_) (fun _ => stay)⟩
      refine twoStep (gb7 4) l6 (xb7 4) (ga7 4) (xa7 4) ⟨by omega, by omega, by omega, by omega, by omega⟩ relb (by omega) (by omega) (fun j h1 h2 => by omega) (RowsJ.mk' xb o7 Fz) (by omega) (by omega) h40 (by rw [q5, q6]; omega) fun F8 T8 h8 d8 S8 rs8 rr8 as8 ar8 g8 l8 x8 g28 x28 rel8 to8 => ?_
      exact ⟨m - 1, by omega, k + 1, F8, T8, d8, Sa, S8, rsa, rs8, rra, rr8, alla, _, asa, as8, ara, ar8, ek, by omega, l8, g28, g8, x28, x8, rela, rel8, q1, q2, q3, by rw [to8.low]; exact q4, by rw [to8.count]; exact q5, by rw [to8.size]; exact q6, by omega, by have := to8.epoch; omega, by omega, by rw [List.length_append, List.length_map]; omega⟩
    refine IfB.eq (fun _ => ?_) (fun _ => second)
    refine (lawRoom_spec (xa7 0).x rela.le (by omega) 1 3 (by omega) (by omega)).mono ?_
    rintro _ h7' ⟨rfl, hh⟩
    obtain rfl := hh.symm
    refine ⟨_, rfl, IfB.dec (fun hroom => ?_) (fun _ => second)⟩
    refine twoStep (ga7 3) l6 (xa7 3) (gb7 3) (xb7 3) ⟨by omega, by omega, by omega, by omega, by omega⟩ rela (by omega) (by omega) (fun j h1 h2 => by omega) (RowsJ.mk' xa o7 Fz) (by omega) (by omega) h40 (by rw [q2, q3]; omega) fun F8 T8 h8 d8 S8 rs8 rr8 as8 ar8 g8 l8 x8 g28 x28 rel8 to8 => ?_
    exact ⟨m - 1, by omega, k + 1, F8, T8, d8, S8, Sb, rs8, rsb, rr8, rrb, _, allb, as8, asb, ar8, arb, ek, by omega, l8, g8, g28, x8, x28, rel8, relb, by rw [to8.low]; exact q1, by rw [to8.count]; exact q2, by rw [to8.size]; exact q3, q4, q5, q6, by have := to8.epoch; omega, by omega, by rw [List.length_append, List.length_map]; omega, by omega⟩
  · refine (Crash_spec ga.p.dev wp.len (wp.rd.ext ga.p.ext) wp.len (wp.rd.ext ga.p.ext)).mono ?_
    rintro _ h7 ⟨e7, F7, cb, rfl, x7⟩
    refine ⟨_, rfl, .no rfl ?_⟩
    obtain ⟨sm, gd⟩ := crash_same l6 ga.p.dev.1 ga.p.inv.pre.good picks picks
    have e07 := ga.p.ext.trans e7
    have s6 := ga.p.ext.size
    have pa7 : LgPre (d6.crash picks picks) Sa := ga.p.inv.pre.same x7.1 rfl rfl rfl rfl rfl rfl rfl sm.ok.size sm.ok.n gd fun j _ _ => sm.rows j
    have hra := rela.len
    have hrb := relb.len
    refine openLg (x7.low s6) e07 (sm.ok.n.trans ga.p.n) (sm.ok.size.trans ga.p.size) sm.ok.live pa7 (low := 0) (high := 2) q1 q2 (by omega) (by omega) fun F8 h8 lc rsc rrc d8 Sc8 p8 l8 to8 he8 ho8 c8 gF8 hlc ric => ?_
    have pb8 : LgPre d8 Sb := (gb.p.inv.pre.same x7.1 rfl rfl rfl rfl rfl rfl rfl sm.ok.size sm.ok.n gd fun j _ _ => sm.rows j).same p8.dev.1 rfl rfl rfl rfl rfl rfl rfl (p8.size.trans (sm.ok.size.trans ga.p.size).symm) (p8.n.trans (sm.ok.n.trans ga.p.n).symm) p8.inv.pre.good fun j h1 h2 => ho8 j (.inr (by rw [q1, q2]; omega))
    refine openLg p8.dev p8.ext p8.n p8.size l8 pb8 (low := 3) (high := 7) q4 q5 (by omega) (by omega) fun F9 h9 ld rsd rrd d9 Sd9 p9 l9 to9 he9 ho9 c9 gF9 hld rid => ?_
    refine .yes rfl (.yes rfl (.yes rfl (.yes rfl ?_)))
    -- all that stood there stands there
    have e69 : Ext h6 h9 := by
      have e68 : Ext h6 h8 := c8.ext e7 fun b hb => x7.F0 hb
      exact c9.ext e68 fun b hb => by rw [gF8 b (by have := e7.size; omega)]; exact x7.F0 hb
    have xa9 := xa.x.ext e69
    have xb9 := xb.x.ext e69
    have lc9 := p8.la.chg c9 gF9
    have la9 := ga.p.la.ext e69
    have lb9 := gb.p.la.ext e69
    have e09 := ga.p.ext.trans e69
    have relc : Rel Sc8 0 alla := rela.to to8
    have reld : Rel Sd9 0 allb := relb.to to9
    have sm1 : ∀ {h' : Hp}, Ext h9 h' → HCalls Try.prog fn_scarplaw18_log_same #[lp h3.size, lp lc] h' fun r vh => r = .bool true ∧ Ext h' vh := fun e' => by
      refine (same_spec (lc9.ext e') (xa9.ext e') (by rw [relc.len]; omega) p8.inv.pre.recs40 relc.le (by omega)).mono ?_
      rintro _ _ ⟨rfl, e⟩; exact ⟨by rw [relc.same], e⟩
    have sm2 : ∀ {h' : Hp}, Ext h9 h' → HCalls Try.prog fn_scarplaw18_log_same #[lp h4.size, lp ld] h' fun r vh => r = .bool true ∧ Ext h' vh := fun e' => by
      refine (same_spec (p9.la.ext e') (xb9.ext e') (by rw [reld.len]; omega) p9.inv.pre.recs40 reld.le (by omega)).mono ?_
      rintro _ _ ⟨rfl, e⟩; exact ⟨by rw [reld.same], e⟩
    have sm3 : ∀ {h' : Hp}, Ext h9 h' → HCalls Try.prog fn_scarplaw18_log_same #[lp h3.size, lp la] h' fun r vh => r = .bool true ∧ Ext h' vh := fun e' => by
      refine (same_spec (la9.ext e') (xa9.ext e') (by rw [rela.len]; omega) ga.p.inv.pre.recs40 rela.le (by omega)).mono ?_
      rintro _ _ ⟨rfl, e⟩; exact ⟨by rw [rela.same], e⟩
    have sm4 : ∀ {h' : Hp}, Ext h9 h' → HCalls Try.prog fn_scarplaw18_log_same #[lp h4.size, lp lb] h' fun r vh => r = .bool true ∧ Ext h' vh := fun e' => by
      refine (same_spec (lb9.ext e') (xb9.ext e') (by rw [relb.len]; omega) gb.p.inv.pre.recs40 relb.le (by omega)).mono ?_
      rintro _ _ ⟨rfl, e⟩; exact ⟨by rw [relb.same], e⟩
    refine (sm1 (.refl h9)).mono ?_
    rintro _ h10 ⟨rfl, e10⟩
    refine ⟨_, rfl, .tt ?_⟩
    refine (sm2 e10).mono ?_
    rintro _ h11 ⟨rfl, e11⟩
    refine ⟨_, rfl, .tt ?_⟩
    refine (sm3 (e10.trans e11)).mono ?_
    rintro _ h12 ⟨rfl, e12⟩
    refine ⟨_, rfl, .tt ?_⟩
    refine (sm4 ((e10.trans e11).trans e12)).mono ?_
    rintro _ h13 ⟨rfl, e13⟩
    exact ⟨_, rfl, .tt (aw18 (e09.trans (((e10.trans e11).trans e12).trans e13)))⟩

end Go.Proofs.Ytippdkokbhejmaa
