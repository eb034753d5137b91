/-
  SeglogPlays (chapter 18).
-/
import Derived.Test.YtippdkokbhejmaaLaw18b
import Derived.Test.YtippdkokbhejmaaBridge7
namespace Go.Proofs.Ytippdkokbhejmaa
set_option linter.unusedVariables false
set_option linter.unusedSimpArgs false

/-! ### Whose a block is -/
def retag (T : Nat → Nat) (n i : Nat) : Nat → Nat := fun b => if b < n then T b else i
theorem retag_old {T : Nat → Nat} {n i b : Nat} (h : b < n) : retag T n i b = T b := if_pos h
theorem retag_new {T : Nat → Nat} {n i b : Nat} (h : n ≤ b) : retag T n i b = i := if_neg (by omega)
/-- a log that plays, whose blocks bear its mark. -/
structure PL (h0 h : Hp) (F T : Nat → Nat) (i db lb : Nat) (d : Dv) (S : LgV) (rs : Sl) (rr : List (Sl × List UInt8)) : Prop where
  p : LgF h0 h F db lb d S rs rr
  lt : T lb = i
  rt : RowsIn (fun b => T b = i) rs rr
/-- what it should tell, whose blocks bear another mark. -/
structure XS (h0 h : Hp) (F T : Nat → Nat) (j xb : Nat) (q : Option Addr) (first : Nat) (all : List (List UInt8)) (as_ : Sl) (ar : List (Sl × List UInt8)) : Prop where
  x : XAt h xb q first all as_ ar
  own : Own h0.size 1 h as_ (ar.map fun p => slV p.1)
  xb0 : h0.size ≤ xb ∧ F xb = 0 ∧ T xb = j
  an : ∀ a, as_.base = some a → F a.block = 0 ∧ a.block ≠ xb ∧ T a.block = j
  rn : ∀ p ∈ ar, ∀ a, p.1.base = some a → a.block < h.size ∧ F a.block = 0 ∧ a.block ≠ xb ∧ T a.block = j ∧ ∀ a', as_.base = some a' → a.block ≠ a'.block
theorem XS.move {h0 h h' : Hp} {F F' T T' : Nat → Nat} {j xb : Nat} {q : Option Addr} {first : Nat} {all : List (List UInt8)} {as_ : Sl} {ar : List (Sl × List UInt8)} (x : XS h0 h F T j xb q first all as_ ar) (hs : h.size ≤ h'.size) (g : ∀ b, b < h.size → F' b = F b) (gt : ∀ b, b < h.size → T' b = T b) (e : ∀ b, b < h.size → F b = 0 → T b = j → h'[b]? = h[b]?) : XS h0 h' F' T' j xb q first all as_ ar := by
  have hxb := x.x.row.lt
  have e1 := e xb hxb x.xb0.2.1 x.xb0.2.2
  have ea : ∀ a, as_.base = some a → h'[a.block]? = h[a.block]? := fun a ha => e _ (x.own.lt ha).2 (x.an a ha).1 (x.an a ha).2.2
  refine ⟨⟨x.x.row.eq e1, ⟨x.x.rows.rd.eq ea, fun p hp => (x.x.rows.each p hp).eq fun a ha => ?_⟩, x.x.eq⟩, x.own.eq ea, ⟨x.xb0.1, by rw [g _ hxb]; exact x.xb0.2.1, by rw [gt _ hxb]; exact x.xb0.2.2⟩, fun a ha => ?_, fun p hp a ha => ?_⟩
  · obtain ⟨q1, q2, q3, q4, q5⟩ := x.rn p hp a ha
    exact e _ q1 q2 q4
  · obtain ⟨q1, q2, q3⟩ := x.an a ha
    have := (x.own.lt ha).2
    exact ⟨by rw [g _ this]; exact q1, q2, by rw [gt _ this]; exact q3⟩
  · obtain ⟨q1, q2, q3, q4, q5⟩ := x.rn p hp a ha
    exact ⟨by omega, by rw [g _ q1]; exact q2, q3, by rw [gt _ q1]; exact q4, q5⟩
theorem XS.ext {h0 h h' : Hp} {F T T' : Nat → Nat} {j xb : Nat} {q : Option Addr} {first : Nat} {all : List (List UInt8)} {as_ : Sl} {ar : List (Sl × List UInt8)} (x : XS h0 h F T j xb q first all as_ ar) (e : Ext h h') (gt : ∀ b, b < h.size → T' b = T b) : XS h0 h' F T' j xb q first all as_ ar := x.move e.size (fun _ _ => rfl) gt fun b hb _ _ => e.block b hb
theorem PL.ext {h0 h h' : Hp} {F T T' : Nat → Nat} {i db lb : Nat} {d : Dv} {S : LgV} {rs : Sl} {rr : List (Sl × List UInt8)} (g : PL h0 h F T i db lb d S rs rr) (e : Ext h h') (gt : ∀ b, b < h.size → T' b = T b) : PL h0 h' F T' i db lb d S rs rr :=
  ⟨g.p.app e, by rw [gt _ g.p.la.row.lt]; exact g.lt, ⟨fun a ha => by rw [gt _ (g.p.la.rin.out a ha).2.1]; exact g.rt.out a ha, fun p hp a ha => by rw [gt _ (g.p.la.rin.each p hp a ha).2.1]; exact g.rt.each p hp a ha⟩⟩
/-- what others do does not touch it. -/
theorem PL.move {h0 h h' : Hp} {F T T' : Nat → Nat} {i db lb : Nat} {d : Dv} {S : LgV} {rs : Sl} {rr : List (Sl × List UInt8)} (g : PL h0 h F T i db lb d S rs rr) (hs : h.size ≤ h'.size) (gt : ∀ b, b < h.size → T' b = T b) (eF : ∀ b, F b ≠ 0 → h'[b]? = h[b]?) (eT : ∀ b, b < h.size → T b = i → h'[b]? = h[b]?) (ex : Ext h0 h') : PL h0 h' F T' i db lb d S rs rr := by
  have hlb := g.p.la.row.lt
  have r2 : RowsIn (fun b => F b = 0 ∧ b < h.size ∧ b ≠ lb ∧ T b = i) rs rr := ⟨fun a ha => ⟨(g.p.la.rin.out a ha).1, (g.p.la.rin.out a ha).2.1, (g.p.la.rin.out a ha).2.2, g.rt.out a ha⟩, fun p hp a ha => ⟨(g.p.la.rin.each p hp a ha).1, (g.p.la.rin.each p hp a ha).2.1, (g.p.la.rin.each p hp a ha).2.2, g.rt.each p hp a ha⟩⟩
  refine ⟨⟨g.p.dev.keep hs eF, ex, g.p.n, g.p.size, ⟨g.p.la.role, g.p.la.row.eq (eT _ hlb g.lt), g.p.la.recs.eq r2 fun b hb => eT b hb.2.1 hb.2.2.2, r2.mono fun b hb => ⟨hb.1, by omega, hb.2.2.1⟩, g.p.la.eq⟩, g.p.lb0, g.p.inv, g.p.on⟩, by rw [gt _ hlb]; exact g.lt, r2.mono fun b hb => by rw [gt _ hb.2.1]; exact hb.2.2.2⟩
/-- an op of the log. -/
theorem PL.op {h0 h h' : Hp} {F F' T : Nat → Nat} {i db lb : Nat} {d d' : Dv} {S S' : LgV} {rs rs' : Sl} {rr rr' : List (Sl × List UInt8)} (g : PL h0 h F T i db lb d S rs rr) (p' : LgF h0 h' F' db lb d' S' rs' rr') (hP : ∀ P : Nat → Prop, RowsIn P rs rr → (∀ b, h.size ≤ b → P b) → RowsIn P rs' rr') : PL h0 h' F' (retag T h.size i) i db lb d' S' rs' rr' := by
  have hlb := g.p.la.row.lt
  refine ⟨p', by rw [retag_old hlb]; exact g.lt, ?_⟩
  have := hP (fun b => retag T h.size i b = i) ⟨fun a ha => by rw [retag_old (g.p.la.rin.out a ha).2.1]; exact g.rt.out a ha, fun p hp a ha => by rw [retag_old (g.p.la.rin.each p hp a ha).2.1]; exact g.rt.each p hp a ha⟩ fun b hb => retag_new hb
  exact this
/-- another log's op, or a row's. -/
theorem XS.op {h0 h h' : Hp} {F F' T T' : Nat → Nat} {j xb lb : Nat} {q : Option Addr} {first : Nat} {all : List (List UInt8)} {as_ : Sl} {ar : List (Sl × List UInt8)} (x : XS h0 h F T j xb q first all as_ ar) (fr : FrL F F' h h' lb) (hlb : T lb ≠ j) (gt : ∀ b, b < h.size → T' b = T b) : XS h0 h' F' T' j xb q first all as_ ar :=
  x.move fr.size fr.role gt fun b hb hF hT => fr.block b hb hF fun e => hlb (by rw [← e]; exact hT)
/-- more that should be told. -/
theorem XS.push {h0 h : Hp} {F T : Nat → Nat} {j xb : Nat} {q : Option Addr} {first : Nat} {all : List (List UInt8)} {as_ t : Sl} {ar R : List (Sl × List UInt8)} (x : XS h0 h F T j xb q first all as_ ar) (hlo : h0.size ≤ h.size) (r : RowsR h t R)
    (rb : ∀ p ∈ R, ∀ a, p.1.base = some a → a.block < h.size ∧ F a.block = 0 ∧ a.block ≠ xb ∧ T a.block = j ∧ ∀ a', as_.base = some a' → a.block ≠ a'.block) (hlen : all.length + R.length ≤ 100000) (hFz : ∀ b, h.size ≤ b → F b = 0) {K : Hp → Prop}
    (hK : ∀ h' as', XS h0 h' F (retag T h.size j) j xb q first (all ++ R.map (·.2)) as' (ar ++ R) → h.size ≤ h'.size → (∀ b, b < h.size → (T b ≠ j ∨ F b ≠ 0) → h'[b]? = h[b]?) → (∀ b, b < h0.size → h'[b]? = h[b]?) → K h') :
    AppC ty_suint8 1 24 #[.slice Sl.nil.base Sl.nil.len Sl.nil.cap] as_ t h fun s vh14 =>
      ∃ a6 : Addr, (some ⟨xb, 0, none⟩ : Option Addr) = some a6 ∧ StOk vh14 (a6.add 2) ∧ Lt (hset vh14 (a6.add 2) (.slice s.base s.len s.cap)) fun vh15 => K vh15 := by
  have hxb := x.x.row.lt
  have hl := x.x.len
  have htl := r.len
  refine AppC_own5 (news := R.map fun p => slV p.1) rfl x.own hlo (by have := r.rd.len; simpa using this) r.rd.rd (slV_all R) (by omega) (by omega) fun s h1 o1 l1 k1 y1 b1 => ?_
  have hs1 := k1.size
  have row1 : Row h1 xb [.pointer q, .int .i64 (first : Int), .slice as_.base as_.len as_.cap] := x.x.row.eq (y1 xb hxb fun a ha e => (x.an a ha).2.1 e.symm)
  obtain ⟨ok2, r2, o2, s2⟩ := row1.set (i := 2) (by simp) (.slice s.base s.len s.cap)
  refine ⟨_, rfl, ok2, ?_⟩
  generalize hset h1 ((⟨xb, 0, none⟩ : Addr).add 2) (.slice s.base s.len s.cap) = h2 at *
  have hsb : ∀ a, s.base = some a → as_.base = some a ∨ a.block = h.size := b1
  have same : ∀ b, b < h.size → b ≠ xb → (∀ a, as_.base = some a → b ≠ a.block) → h2[b]? = h[b]? := fun b hb h1 h2 => by rw [o2 b h1, y1 b hb h2]
  have an' : ∀ a, s.base = some a → F a.block = 0 ∧ a.block ≠ xb ∧ retag T h.size j a.block = j := fun a ha => by
    rcases hsb a ha with h | h
    · obtain ⟨q1, q2, q3⟩ := x.an a h
      exact ⟨q1, q2, by rw [retag_old (x.own.lt h).2]; exact q3⟩
    · exact ⟨hFz _ (by omega), by omega, retag_new (by omega)⟩
  refine hK h2 s ⟨⟨r2, ⟨⟨?_, o1.le, ?_⟩, fun p hp => ?_⟩, by rw [List.map_append, x.x.eq]⟩, ?_, ⟨x.xb0.1, x.xb0.2.1, by rw [retag_old hxb]; exact x.xb0.2.2⟩, an', fun p hp a ha => ?_⟩ (by omega) (fun b hb hc => ?_) fun b hb => same b (by omega) (by have := x.xb0.1; omega) fun a ha => by have := (x.own.lt ha).1; omega
  · rw [List.map_append]; exact o1.len
  · rw [List.map_append]
    exact (o1.eq fun a ha => o2 _ (an' a ha).2.1).rd
  · have key : Rd 1 h p.1 (p.2.map bv) ∧ ∀ a, p.1.base = some a → a.block < h.size ∧ a.block ≠ xb ∧ ∀ a', as_.base = some a' → a.block ≠ a'.block := by
      rcases List.mem_append.1 hp with hp | hp
      · exact ⟨x.x.rows.each p hp, fun a ha => by obtain ⟨q1, q2, q3, q4, q5⟩ := x.rn p hp a ha; exact ⟨q1, q3, q5⟩⟩
      · exact ⟨r.each p hp, fun a ha => by obtain ⟨q1, q2, q3, q4, q5⟩ := rb p hp a ha; exact ⟨q1, q3, q5⟩⟩
    exact key.1.eq fun a ha => same _ (key.2 a ha).1 (key.2 a ha).2.1 (key.2 a ha).2.2
  · rw [List.map_append]
    exact o1.eq fun a ha => o2 _ (an' a ha).2.1
  · have key : a.block < h.size ∧ F a.block = 0 ∧ a.block ≠ xb ∧ T a.block = j ∧ ∀ a', as_.base = some a' → a.block ≠ a'.block := by
      rcases List.mem_append.1 hp with hp | hp
      · exact x.rn p hp a ha
      · exact rb p hp a ha
    obtain ⟨q1, q2, q3, q4, q5⟩ := key
    refine ⟨by omega, q2, q3, by rw [retag_old q1]; exact q4, fun a' ha' => ?_⟩
    rcases hsb a' ha' with h | h
    · exact q5 a' h
    · omega
  · refine same b hb (fun e => ?_) (fun a ha e => ?_)
    · rcases hc with h | h
      · exact h (by rw [e]; exact x.xb0.2.2)
      · exact h (by rw [e]; exact x.xb0.2.1)
    · rcases hc with h | h
      · exact h (by rw [e]; exact (x.an a ha).2.2)
      · exact h (by rw [e]; exact (x.an a ha).1)
/-- the first one that should be told. -/
theorem XS.setFirst {h0 h : Hp} {F T : Nat → Nat} {j xb : Nat} {q : Option Addr} {first : Nat} {all : List (List UInt8)} {as_ : Sl} {ar : List (Sl × List UInt8)} (x : XS h0 h F T j xb q first all as_ ar) {k : Int} (k' : Nat) (hk : k = k') {K : Hp → Prop}
    (hK : ∀ h', XS h0 h' F T j xb q k' all as_ ar → h'.size = h.size → (∀ b, b ≠ xb → h'[b]? = h[b]?) → K h') :
    ∃ a6 : Addr, (some ⟨xb, 0, none⟩ : Option Addr) = some a6 ∧ StOk h (a6.add 1) ∧ Lt (hset h (a6.add 1) (.int .i64 k)) fun vh15 => K vh15 := by
  subst hk
  obtain ⟨ok2, r2, o2, s2⟩ := x.x.row.set (i := 1) (by simp) (.int .i64 (k' : Int))
  refine ⟨_, rfl, ok2, hK _ ⟨⟨r2, ⟨x.x.rows.rd.eq fun a ha => o2 _ (x.an a ha).2.1, fun p hp => (x.x.rows.each p hp).eq fun a ha => o2 _ (x.rn p hp a ha).2.2.1⟩, x.x.eq⟩, x.own.eq fun a ha => o2 _ (x.an a ha).2.1, x.xb0, x.an, fun p hp a ha => ?_⟩ s2 o2⟩
  obtain ⟨q1, q2, q3, q4, q5⟩ := x.rn p hp a ha
  exact ⟨by rw [s2]; exact q1, q2, q3, q4, q5⟩
/-- the log tells what it should. -/
structure Rel (S : LgV) (first : Nat) (all : List (List UInt8)) : Prop where
  at_ : S.first = first
  le : first ≤ all.length
  recs : S.recs = all.drop first
theorem Rel.len {S : LgV} {first : Nat} {all : List (List UInt8)} (r : Rel S first all) : S.first + S.recs.length = all.length := by
  rw [r.at_, r.recs, List.length_drop]; have := r.le; omega
theorem Rel.same {S : LgV} {first : Nat} {all : List (List UInt8)} (r : Rel S first all) : sameB first all S = true := by
  unfold sameB; rw [decide_eq_true]; exact ⟨r.at_, r.len, r.recs⟩
theorem Rel.app {S S' : LgV} {first : Nat} {all R : List (List UInt8)} (r : Rel S first all) (to : LgTo S S' S.first (S.recs ++ R)) : Rel S' first (all ++ R) :=
  ⟨by rw [to.first]; exact r.at_, by rw [List.length_append]; have := r.le; omega, by rw [to.recs, r.recs, List.drop_append_of_le_length r.le]⟩
theorem Rel.trim {S S' : LgV} {first k : Nat} {all : List (List UInt8)} (r : Rel S first all) (h1 : first ≤ k) (h2 : k ≤ all.length) (to : LgTo S S' k (S.recs.drop (k - S.first))) : Rel S' k all :=
  ⟨to.first, h2, by rw [to.recs, r.recs, r.at_, List.drop_drop]; congr 1; omega⟩
theorem Rel.to {S S' : LgV} {first : Nat} {all : List (List UInt8)} (r : Rel S first all) (to : LgTo S S' S.first S.recs) : Rel S' first all := ⟨by rw [to.first]; exact r.at_, r.le, by rw [to.recs]; exact r.recs⟩
theorem small_spec (h : Hp) (s : Sl) : HCalls Try.prog fn_scarplaw18_small #[.slice s.base s.len s.cap] h fun r h' => r = .bool (decide ((s.len : Int) ≤ 60)) ∧ h' = h := by
  apply scarplaw18_small_vc
  unfold vcscarplaw18_small
  exact ⟨rfl, rfl⟩
/-- does it tell just that? it does. -/
theorem PL.same {h0 h : Hp} {F T T' : Nat → Nat} {i j db lb xb : Nat} {d : Dv} {S : LgV} {rs : Sl} {rr : List (Sl × List UInt8)} {q : Option Addr} {first : Nat} {all : List (List UInt8)} {as_ : Sl} {ar : List (Sl × List UInt8)} (g : PL h0 h F T i db lb d S rs rr) (x : XS h0 h F T' j xb q first all as_ ar) (rel : Rel S first all) (ha : all.length ≤ 100000) :
    HCalls Try.prog fn_scarplaw18_log_same #[lp xb, lp lb] h fun r h' => r = .bool true ∧ Ext h h' := by
  refine (same_spec g.p.la x.x (by rw [rel.len]; omega) g.p.inv.pre.recs40 rel.le (by omega)).mono ?_
  rintro _ h1 ⟨rfl, e⟩
  exact ⟨by rw [rel.same], e⟩
theorem SeglogPlays_law {h : Hp} (low : Int) (_ : (Lit.int .i64 low).wf = true) (zones : Int) (_ : (Lit.int .i64 zones).wf = true) (s : Sl) (l : List Q4) (w : InQ h s l) :
    HCalls Try.prog fn_scarplaw18_SeglogPlays #[.int .i64 low, .int .i64 zones, .slice s.base s.len s.cap] h (Yes h) := by
  apply scarplaw18_SeglogPlays_vc
  unfold vcscarplaw18_SeglogPlays
  have hl := w.len
  refine (small_spec h s).mono ?_
  rintro _ h' ⟨rfl, hh⟩
  obtain rfl := hh.symm
  refine ⟨_, rfl, IfB.not (IfB.dec (fun a0 => ?_) (fun a0 => aw18 (.refl h)))⟩
  refine IfB.dec (fun _ => aw18 (.refl h)) (fun a1 => IfB.dec (fun _ => aw18 (.refl h)) (fun a2 => IfB.dec (fun _ => aw18 (.refl h)) (fun a3 => ?_)))
  rw [iSub64 (by omega)]
  refine IfB.dec (fun _ => aw18 (.refl h)) (fun a4 => ?_)
  obtain ⟨L, rfl⟩ : ∃ L : Nat, low = L := ⟨low.toNat, by omega⟩
  obtain ⟨Z, rfl⟩ : ∃ Z : Nat, zones = Z := ⟨zones.toNat, by omega⟩
  have ehigh : iSub .i64 (iAdd .i64 (L : Int) (Z : Int)) (1 : Int) = ((L + Z - 1 : Nat) : Int) := by
    rw [iAdd64 (by omega), iSub64 (by omega)]; omega
  rw [ehigh]
  have hcz : (L + Z - 1 - L + 1) / 2 = Z / 2 := by congr 1; omega
  refine (dev18_spec h).mono ?_
  rintro _ h1 ⟨_, _, rfl, F, db, rfl, rfl, x, e1⟩
  refine ⟨_, _, rfl, .no rfl ?_⟩
  refine newLg x e1 (low := L) (high := L + Z - 1) (by omega) (by omega) fun F2 h2 lb rs rr d2 S2 p2 l2 to2 he2 ho2 _ _ hlb ri2 => ?_
  refine .no rfl (.no rfl ?_)
  rw [hcz] at to2 ho2
  intro h3
  have e3 : Ext h2 h3 := alc_ext _ _ _
  have sz3 : h3.size = h2.size + 1 := size_alc _ _ _
  have s1 := e1.size
  have s02 := p2.ext.size
  have hlb2 := p2.la.row.lt
  obtain ⟨q0, hq0⟩ : ∃ q0 : Option Addr, q0 = some ⟨lb, 0, none⟩ := ⟨_, rfl⟩
  -- marks: 1 the log's, 2 what it should tell
  let T3 : Nat → Nat := fun b => if b < h2.size then 1 else 2
  have g3 : PL h h3 F2 T3 1 db lb d2 S2 rs rr := ⟨p2.app e3, if_pos hlb2, ⟨fun a ha => if_pos (p2.la.rin.out a ha).2.1, fun p hp a ha => if_pos (p2.la.rin.each p hp a ha).2.1⟩⟩
  have x3 : XS h h3 F2 T3 2 h2.size q0 0 [] Sl.nil [] := ⟨⟨by rw [hq0]; exact Row.alc _ _ _, RowsR.nil _, rfl⟩, Own.nil _ _ _, ⟨s02, p2.dev.free (Nat.le_refl _), if_neg (by omega)⟩, fun a ha => (by cases ha), fun p hp => by simp at hp⟩
  have rel3 : Rel S2 0 [] := ⟨to2.first, Nat.le_refl _, to2.recs⟩
  refine ⟨fun sv i m h' => ∃ (k : Nat) (F T : Nat → Nat) (lb : Nat) (d : Dv) (S : LgV) (rs : Sl) (rr : List (Sl × List UInt8)) (first : Nat) (all : List (List UInt8)) (as_ : Sl) (ar : List (Sl × List UInt8)), sv = some ⟨lb, 0, none⟩ ∧ i = k ∧ m + k = l.length ∧ PL h h' F T 1 db lb d S rs rr ∧ Live d ∧ XS h h' F T 2 h2.size q0 first all as_ ar ∧ Rel S first all ∧ S.low = L ∧ S.count = Z / 2 ∧ S.size = 96 ∧ S.epoch ≤ k ∧ all.length ≤ k * 41 ∧ (∀ j, (j < L ∨ L + 2 * (Z / 2) ≤ j) → (d.z j).rows = []), l.length,
    ⟨0, F2, T3, lb, d2, S2, rs, rr, 0, [], Sl.nil, [], rfl, rfl, rfl, g3, l2, x3, rel3, to2.low, to2.count, to2.size, by omega, by simp, ho2⟩, ?_⟩
  rintro _ _ _ m h4 ⟨k, F4, T4, lb4, d4, S4, rs4, rr4, first, all, as_, ar, rfl, rfl, hm, g4, l4, x4, rel4, hlow, hcount, hsize, hep, hal, ho4⟩
  refine IfB.dec (fun hlt => ?_) (fun hge => ?_)
  · have hk : k < l.length := by omega
    have getQ : ∀ {h9 : Hp}, Ext h h9 → ∃ a : Addr, s.base = some a ∧ 0 ≤ (k : Int) ∧ (k : Int) < (s.len : Int) ∧ hcell h9 (a.add ((k : Int).toNat * 4)) = some (.int .i64 l[k].a) ∧ hcell h9 ((a.add ((k : Int).toNat * 4)).add 1) = some (.int .i64 l[k].b) ∧ hcell h9 ((a.add ((k : Int).toNat * 4)).add 2) = some (.int .i64 l[k].c) ∧ hcell h9 ((a.add ((k : Int).toNat * 4)).add 3) = some (.int .i64 l[k].d) := fun e9 => w.ix e9 k hk
    obtain ⟨a, ha, hb1, hb2, c0, c1, c2, c3⟩ := getQ g4.p.ext
    refine ⟨a, ha, hb1, hb2, _, c1, ?_⟩
    refine (Round_spec l[k].b 41 (by omega) (by omega) h4).mono ?_
    rintro _ h4' ⟨rfl, hh⟩
    obtain rfl := hh.symm
    refine ⟨_, rfl, a, ha, hb1, hb2, _, c2, ?_⟩
    refine (Round_spec l[k].c 41 (by omega) (by omega) h4).mono ?_
    rintro _ h4' ⟨rfl, hh⟩
    obtain rfl := hh.symm
    obtain ⟨N, hN, hN2⟩ : ∃ N : Nat, l[k].b % 41 = N ∧ N ≤ 40 := by
      have hm1 := Int.emod_nonneg l[k].b (show (41 : Int) ≠ 0 by omega)
      have hm2 := Int.emod_lt_of_pos l[k].b (show (0 : Int) < 41 by omega)
      exact ⟨(l[k].b % 41).toNat, by omega, by omega⟩
    obtain ⟨Y, hY, hY2⟩ : ∃ Y : Nat, l[k].c % 41 = Y ∧ Y ≤ 40 := by
      have hm1 := Int.emod_nonneg l[k].c (show (41 : Int) ≠ 0 by omega)
      have hm2 := Int.emod_lt_of_pos l[k].c (show (0 : Int) < 41 by omega)
      exact ⟨(l[k].c % 41).toNat, by omega, by omega⟩
    rw [hN, hY]
    have hkl : k < 60 := by omega
    have hrl := rel4.len
    have hasl := x4.x.len.1
    refine ⟨_, rfl, fun sv h' => ∃ (F T : Nat → Nat) (lb : Nat) (d : Dv) (S : LgV) (rs : Sl) (rr : List (Sl × List UInt8)) (first : Nat) (all : List (List UInt8)) (as_ : Sl) (ar : List (Sl × List UInt8)), sv = some ⟨lb, 0, none⟩ ∧ PL h h' F T 1 db lb d S rs rr ∧ Live d ∧ XS h h' F T 2 h2.size q0 first all as_ ar ∧ Rel S first all ∧ S.low = L ∧ S.count = Z / 2 ∧ S.size = 96 ∧ S.epoch ≤ k + 1 ∧ all.length ≤ (k + 1) * 41 ∧ (∀ j, (j < L ∨ L + 2 * (Z / 2) ≤ j) → (d.z j).rows = []), ?_, ?_⟩
    · refine ⟨a, ha, hb1, hb2, _, c0, IfB.eq (fun hk1 => ?_) (fun hk1 => IfB.eq (fun hk2 => ?_) (fun hk2 => IfB.eq (fun hk3 => ?_) (fun hk3 => ?_)))⟩
      · -- an Append
        refine ⟨_, rfl, as_, x4.x.row.get rfl, ?_⟩
        rw [hasl]
        refine (recs_spec all.length N Y (by omega) (by omega) (by omega) h4).mono ?_
        rintro _ h5 ⟨t, R, rfl, o5, hR, e5⟩
        refine ⟨t, rfl, ?_⟩
        have hRl : R.length = N := by
          have := congrArg List.length hR
          rw [List.length_map, recsL_length] at this; exact this
        have hRs : ∀ p ∈ R, p.2.length = Y := fun p hp => recsL_size _ N Y _ (by rw [← hR]; exact List.mem_map.2 ⟨p, hp, rfl⟩)
        have g5 : PL h h5 F4 (retag T4 h4.size 2) 1 db lb4 d4 S4 rs4 rr4 := g4.ext e5 fun b hb => retag_old hb
        have x5 : XS h h5 F4 (retag T4 h4.size 2) 2 h2.size q0 first all as_ ar := x4.ext e5 fun b hb => retag_old hb
        have Fz : ∀ b, h4.size ≤ b → F4 b = 0 := fun b hb => g4.p.dev.free hb
        have hlb4 := g4.p.la.row.lt
        have hxb4 := x4.x.row.lt
        have s5 := e5.size
        by_cases hN0 : N = 0
        · refine (logAppendBad_spec (some ⟨lb4, 0, none⟩) o5.rowsR (by omega) (.inl (by omega))).mono ?_
          rintro _ h5' ⟨rfl, hh⟩
          obtain rfl := hh.symm
          refine ⟨_, _, rfl, .yes (by simp [hN0]) (.no (by rw [if_pos (by omega)]; rfl) ?_)⟩
          exact ⟨F4, _, lb4, d4, S4, rs4, rr4, first, all, as_, ar, rfl, g5, l4, x5, rel4, hlow, hcount, hsize, by omega, by omega, ho4⟩
        · refine appendLg g5.p l4 (R := R) ⟨by omega, by omega⟩ o5.rowsR (o5.rowsIn.mono fun b hb => ⟨Fz _ hb.1, hb.2, by omega⟩) (by omega) (by omega) (fun p hp => by rw [hRs p hp]; omega) (fun F6 h6 rs6 rr6 d6 S6 p6 l6 to6 ho6 fr6 hP6 => ?_) (fun F6 h6 rs6 rr6 p6 fr6 hP6 hno => ?_)
          · refine .no (by simp; omega) (.yes rfl ?_)
            have g6 := g5.op p6 hP6
            have hlt5 : retag T4 h4.size 2 lb4 ≠ 2 := by rw [retag_old hlb4, g4.lt]; omega
            have x6 : XS h h6 F6 (retag (retag T4 h4.size 2) h5.size 1) 2 h2.size q0 first all as_ ar := x5.op fr6 hlt5 fun b hb => retag_old hb
            have hasl6 := x6.x.len.1
            refine ⟨_, rfl, as_, x6.x.row.get rfl, .no ?_ ?_⟩
            · rw [hrl, hasl6]; simp
            · refine ⟨_, rfl, as_, x6.x.row.get rfl, ?_⟩
              have s6 := fr6.size
              have r6 : RowsR h6 t R := o5.rowsR.eq (o5.rowsIn) fun b hb => fr6.block b hb.2 (Fz _ hb.1) (by omega)
              refine x6.push p6.ext.size r6 (fun p hp a ha => ?_) (by omega) (fun b hb => p6.dev.free hb) fun h7 as7 x7 s7 y7 z7 => ?_
              · obtain ⟨q1, q2, q3⟩ := o5.base p hp a ha
                exact ⟨by omega, by rw [fr6.role _ q2]; exact Fz _ q1, by omega, by rw [retag_old q2, retag_new q1], fun a' ha' => by have := (x4.own.lt ha').2; omega⟩
              · have g7 : PL h h7 F6 (retag (retag (retag T4 h4.size 2) h5.size 1) h6.size 2) 1 db lb4 d6 S6 rs6 rr6 := g6.move s7 (fun b hb => retag_old hb) (fun b hb => y7 b (p6.dev.dom b hb).2 (.inr hb)) (fun b hb hT => y7 b hb (.inl (by rw [hT]; omega))) ⟨by have := p6.ext.size; omega, fun b hb => by rw [z7 b hb, p6.ext.block b hb]⟩
                rw [hR] at x7 to6
                exact ⟨F6, _, lb4, d6, S6, rs6, rr6, first, _, as7, _, rfl, g7, l6, x7, rel4.app to6, by rw [to6.low]; exact hlow, by rw [to6.count]; exact hcount, by rw [to6.size]; exact hsize, by have := to6.epoch; omega, by rw [List.length_append, recsL_length]; omega, fun j hj => by rw [ho6 j (by rw [hlow, hcount]; exact hj)]; exact ho4 j hj⟩
          · refine .no (by simp; omega) (.no rfl (.no rfl ?_))
            have g6 := g5.op p6 hP6
            have hlt5 : retag T4 h4.size 2 lb4 ≠ 2 := by rw [retag_old hlb4, g4.lt]; omega
            have x6 : XS h h6 F6 (retag (retag T4 h4.size 2) h5.size 1) 2 h2.size q0 first all as_ ar := x5.op fr6 hlt5 fun b hb => retag_old hb
            refine (lawRoom_spec x6.x rel4.le (by omega) N Z (by omega) (by omega)).mono ?_
            rintro _ h6' ⟨rfl, hh⟩
            obtain rfl := hh.symm
            refine ⟨_, rfl, .no ?_ ⟨F6, _, lb4, d4, S4, rs6, rr6, first, all, as_, ar, rfl, g6, l4, x6, rel4, hlow, hcount, hsize, by omega, by omega, ho4⟩⟩
            rw [decide_eq_false_iff_not]
            have hfi := rel4.at_
            rw [hcount, hsize, hRl] at hno
            omega
      · -- a Trim
        have hfi := rel4.at_
        have hle := rel4.le
        refine ⟨_, rfl, _, x4.x.row.get rfl, a, ha, hb1, hb2, _, c3, _, rfl, as_, x4.x.row.get rfl, _, rfl, _, x4.x.row.get rfl, ?_⟩
        have e1' : iSub .i64 (as_.len : Int) (first : Int) = ((all.length - first : Nat) : Int) := by rw [iSub64 (by omega)]; omega
        have e2' : iAdd .i64 ((all.length - first : Nat) : Int) (1 : Int) = ((all.length - first + 1 : Nat) : Int) := by rw [iAdd64 (by omega)]; push_cast; rfl
        rw [e1', e2']
        refine (Round_spec l[k].d ((all.length - first + 1 : Nat) : Int) (by omega) (by omega) h4).mono ?_
        rintro _ h4' ⟨rfl, hh⟩
        obtain rfl := hh.symm
        obtain ⟨V, hV, hV2⟩ : ∃ V : Nat, l[k].d % ((all.length - first + 1 : Nat) : Int) = V ∧ V ≤ all.length - first := by
          have hm1 := Int.emod_nonneg l[k].d (show ((all.length - first + 1 : Nat) : Int) ≠ 0 by omega)
          have hm2 := Int.emod_lt_of_pos l[k].d (show (0 : Int) < ((all.length - first + 1 : Nat) : Int) by omega)
          exact ⟨(l[k].d % ((all.length - first + 1 : Nat) : Int)).toNat, by omega, by omega⟩
        rw [hV]
        have e3' : iAdd .i64 (first : Int) (V : Int) = ((first + V : Nat) : Int) := by rw [iAdd64 (by omega)]; push_cast; rfl
        refine ⟨_, rfl, .refl _, ?_⟩
        rw [e3']
        refine trimLg g4.p l4 ⟨by omega, by omega⟩ (k := first + V) (by omega) (by omega) fun F6 h6 rs6 rr6 d6 S6 p6 l6 to6 ho6 fr6 hP6 => ?_
        refine .no rfl ?_
        have g6 := g4.op p6 hP6
        have x6 : XS h h6 F6 (retag T4 h4.size 1) 2 h2.size q0 first all as_ ar := x4.op fr6 (by rw [g4.lt]; omega) fun b hb => retag_old hb
        refine x6.setFirst (first + V) rfl fun h7 x7 s7 o7 => ?_
        have hxb6 : F6 h2.size = 0 := x6.xb0.2.1
        have g7 : PL h h7 F6 (retag T4 h4.size 1) 1 db lb4 d6 S6 rs6 rr6 := g6.move (by omega) (fun _ _ => rfl) (fun b hb => o7 b fun e => hb (by rw [e]; exact hxb6)) (fun b hb hT => o7 b fun e => by
          have := x6.xb0.2.2
          rw [e, this] at hT; omega) ⟨by have := p6.ext.size; omega, fun b hb => by rw [o7 b (by have := x6.xb0.1; omega), p6.ext.block b hb]⟩
        exact ⟨F6, _, lb4, d6, S6, rs6, rr6, first + V, all, as_, ar, rfl, g7, l6, x7, rel4.trim (by omega) (by omega) to6, by rw [to6.low]; exact hlow, by rw [to6.count]; exact hcount, by rw [to6.size]; exact hsize, by have := to6.epoch; omega, by omega, fun j hj => by rw [ho6 j (by rw [hlow, hcount]; exact hj)]; exact ho4 j hj⟩
      · -- opened anew
        refine openLg g4.p.dev g4.p.ext g4.p.n g4.p.size l4 g4.p.inv.pre (low := L) (high := L + Z - 1) hlow (by rw [hcount, hcz]) (by omega) (by omega) fun F6 h6 lb6 rs6 rr6 d6 S6 p6 l6 to6 he6 ho6 c6 gF6 hlb6 ri6 => ?_
        refine .no rfl (.no rfl ?_)
        have x6 : XS h h6 F6 (retag T4 h4.size 1) 2 h2.size q0 first all as_ ar := x4.move c6.size gF6 (fun b hb => retag_old hb) fun b hb hF _ => c6.block b hb hF
        have g6 : PL h h6 F6 (retag T4 h4.size 1) 1 db lb6 d6 S6 rs6 rr6 := ⟨p6, retag_new hlb6, ri6.mono fun b hb => retag_new hb⟩
        exact ⟨F6, _, lb6, d6, S6, rs6, rr6, first, all, as_, ar, rfl, g6, l6, x6, rel4.to to6, by rw [to6.low]; exact hlow, by rw [to6.count]; exact hcount, by rw [to6.size]; exact hsize, by omega, by omega, fun j hj => by rw [ho6 j (by rw [hlow, hcount]; exact hj)]; exact ho4 j hj⟩
      · exact ⟨F4, T4, lb4, d4, S4, rs4, rr4, first, all, as_, ar, rfl, g4, l4, x4, rel4, hlow, hcount, hsize, by omega, by omega, ho4⟩
    · rintro _ _ h5 ⟨F5, T5, lb5, d5, S5, rs5, rr5, first5, all5, as5, ar5, rfl, g5, l5, x5, rel5, hlow5, hcount5, hsize5, hep5, hal5, ho5⟩
      refine (g5.same x5 rel5 (by omega)).mono ?_
      rintro _ h6 ⟨rfl, e6⟩
      refine ⟨_, rfl, .no rfl ?_⟩
      have g6 : PL h h6 F5 T5 1 db lb5 d5 S5 rs5 rr5 := g5.ext e6 fun _ _ => rfl
      refine (LogDead_spec g6.p.la.row).mono ?_
      rintro _ h6' ⟨rfl, hh⟩
      obtain rfl := hh.symm
      refine ⟨_, rfl, .no g6.p.on ?_⟩
      exact ⟨m - 1, by omega, k + 1, F5, T5, lb5, d5, S5, rs5, rr5, first5, all5, as5, ar5, rfl, by rw [iAdd64 (by omega)]; push_cast; rfl, by omega, g6, l5, x5.ext e6 fun _ _ => rfl, rel5, hlow5, hcount5, hsize5, hep5, hal5, ho5⟩
  · refine ⟨fun z m h' => h4 = h' ∧ ∃ j : Nat, z = j ∧ m + j = 8, 8, ⟨rfl, 0, rfl, rfl⟩, ?_⟩
    rintro _ _ m2 _ ⟨rfl, j, rfl, hm2⟩
    refine IfB.dec (fun hlt2 => ?_) (fun hge2 => aw18 g4.p.ext)
    have hj : j < 8 := by omega
    have hn8 := g4.p.n
    have next : ∃ n5, n5 < m2 ∧ h4 = h4 ∧ ∃ j' : Nat, iAdd .i64 (j : Int) (1 : Int) = j' ∧ n5 + j' = 8 := ⟨m2 - 1, by omega, rfl, j + 1, by rw [iAdd64 (by omega)]; push_cast; rfl, by omega⟩
    refine (Pointer_spec g4.p.dev _).mono ?_
    rintro _ h4' ⟨hh, ⟨hno, _⟩ | ⟨k', hk', hkn, rfl⟩⟩
    · exact absurd ⟨by omega, by rw [hn8]; omega⟩ hno
    obtain rfl := hh.symm
    obtain rfl : k' = j := by omega
    refine ⟨_, _, rfl, .no rfl (IfB.dec (fun hpos => IfB.dec (fun hlow' => ?_) (fun hlow' => IfB.dec (fun hhi => ?_) (fun _ => next))) (fun _ => next))⟩
    · exfalso
      have := ho4 k' (.inl (by omega))
      rw [this] at hpos; simp at hpos
    · exfalso
      have := ho4 k' (.inr (by omega))
      rw [this] at hpos; simp at hpos

end Go.Proofs.Ytippdkokbhejmaa
