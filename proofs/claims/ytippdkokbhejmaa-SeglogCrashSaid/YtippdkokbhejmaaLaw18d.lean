/-
  SeglogTurns (chapter 18).
-/
import Derived.Test.YtippdkokbhejmaaLaw18c
namespace Go.Proofs.Ytippdkokbhejmaa
set_option linter.unusedVariables false
set_option linter.unusedSimpArgs false

/-- what is appended is what will be told. -/
structure RowsJ (h0 h : Hp) (F T : Nat → Nat) (j xb : Nat) (as_ t : Sl) (R : List (Sl × List UInt8)) : Prop where
  r : RowsR h t R
  rb : ∀ p ∈ R, ∀ a, p.1.base = some a → a.block < h.size ∧ F a.block = 0 ∧ a.block ≠ xb ∧ T a.block = j ∧ ∀ a', as_.base = some a' → a.block ≠ a'.block
  tb : ∀ a, t.base = some a → a.block < h.size ∧ F a.block = 0 ∧ T a.block = j
theorem RowsJ.mk' {h0 h h5 : Hp} {F T : Nat → Nat} {j xb : Nat} {as_ t : Sl} {R : List (Sl × List UInt8)} {q : Option Addr} {first : Nat} {all : List (List UInt8)} {ar : List (Sl × List UInt8)} (x : XS h0 h F T j xb q first all as_ ar) (o5 : OwnRows h.size h5 t R) (Fz : ∀ b, h.size ≤ b → F b = 0) : RowsJ h0 h5 F (retag T h.size j) j xb as_ t R :=
  ⟨o5.rowsR, fun p hp a ha => by
    obtain ⟨q1, q2, q3⟩ := o5.base p hp a ha
    have := x.x.row.lt
    exact ⟨q2, Fz _ q1, by omega, retag_new q1, fun a' ha' => by have := (x.own.lt ha').2; omega⟩, fun a ha => ⟨(o5.own.lt ha).2, Fz _ (o5.own.lt ha).1, retag_new (o5.own.lt ha).1⟩⟩
/-- what others do. -/
structure Oth (F F' T T' : Nat → Nat) (h0 h h' : Hp) (i j : Nat) : Prop where
  size : h.size ≤ h'.size
  role : ∀ b, b < h.size → F' b = F b
  tag : ∀ b, b < h.size → T' b = T b
  block : ∀ b, b < h.size → F b = 0 → T b ≠ i → T b ≠ j → h'[b]? = h[b]?
theorem appStep {h0 h : Hp} {F T : Nat → Nat} {i j db lb xb : Nat} {d : Dv} {S : LgV} {rs : Sl} {rr : List (Sl × List UInt8)} {q : Option Addr} {first : Nat} {all : List (List UInt8)} {as_ t : Sl} {ar R : List (Sl × List UInt8)} (g : PL h0 h F T i db lb d S rs rr) (l : Live d) (x : XS h0 h F T j xb q first all as_ ar) (hij : i ≠ j) (rel : Rel S first all) (hep : S.epoch ≤ 100000) (hal : all.length + R.length ≤ 100000)
    (y : RowsJ h0 h F T j xb as_ t R) (h1 : 1 ≤ R.length) (h2 : R.length ≤ 40) (h40 : ∀ p ∈ R, p.2.length ≤ 40) (hroom : S.recs.length + R.length + 2 ≤ S.count * S.size) {K : Int → Int → Hp → Prop}
    (hK : ∀ F' h' d' S' rs' rr', PL h0 h' F' (retag T h.size i) i db lb d' S' rs' rr' → Live d' → XS h0 h' F' (retag T h.size i) j xb q first all as_ ar → RowsJ h0 h' F' (retag T h.size i) j xb as_ t R → Rel S' first (all ++ R.map (·.2)) → LgTo S S' S.first (S.recs ++ R.map (·.2)) → (∀ k, (k < S.low ∨ S.low + 2 * S.count ≤ k) → (d'.z k).rows = (d.z k).rows) → FrL F F' h h' lb → K (all.length : Int) 0 h') :
    HCalls Try.prog fn_seglog_Log_Append #[lp lb, .slice t.base t.len t.cap] h fun w vh => ∃ c : Int, ∃ c1 : Int, w = .tuple #[.int .i64 c, .int .i64 c1] ∧ K c c1 vh := by
  have hrl := rel.len
  refine appendLg g.p l (R := R) ⟨hep, by omega⟩ y.r ⟨fun a ha => ?_, fun p hp a ha => ?_⟩ h1 h2 h40 (fun F6 h6 rs6 rr6 d6 S6 p6 l6 to6 ho6 fr6 hP6 => ?_) (fun F6 h6 rs6 rr6 p6 fr6 hP6 hno => by omega)
  · obtain ⟨q1, q2, q3⟩ := y.tb a ha
    exact ⟨q2, q1, fun e => hij (by rw [← g.lt, ← e]; exact q3)⟩
  · obtain ⟨q1, q2, q3, q4, q5⟩ := y.rb p hp a ha
    exact ⟨q2, q1, fun e => hij (by rw [← g.lt, ← e]; exact q4)⟩
  · rw [hrl]
    have hlt : T lb ≠ j := by rw [g.lt]; exact hij
    refine hK F6 h6 d6 S6 rs6 rr6 (g.op p6 hP6) l6 (x.op fr6 hlt fun b hb => retag_old hb) ⟨y.r.eq (P := fun b => b < h.size ∧ F b = 0 ∧ T b = j) ⟨fun a ha => y.tb a ha, fun p hp a ha => ⟨(y.rb p hp a ha).1, (y.rb p hp a ha).2.1, (y.rb p hp a ha).2.2.2.1⟩⟩ fun b hb => fr6.block b hb.1 hb.2.1 fun e => hlt (by rw [← e]; exact hb.2.2), fun p hp a ha => ?_, fun a ha => ?_⟩ (rel.app to6) to6 ho6 fr6
    · obtain ⟨q1, q2, q3, q4, q5⟩ := y.rb p hp a ha
      exact ⟨by have := fr6.size; omega, by rw [fr6.role _ q1]; exact q2, q3, by rw [retag_old q1]; exact q4, q5⟩
    · obtain ⟨q1, q2, q3⟩ := y.tb a ha
      exact ⟨by have := fr6.size; omega, by rw [fr6.role _ q1]; exact q2, by rw [retag_old q1]; exact q3⟩
theorem pushStep {h0 h : Hp} {F T : Nat → Nat} {i j db lb xb : Nat} {d : Dv} {S : LgV} {rs : Sl} {rr : List (Sl × List UInt8)} {q : Option Addr} {first : Nat} {all : List (List UInt8)} {as_ t : Sl} {ar R : List (Sl × List UInt8)} (g : PL h0 h F T i db lb d S rs rr) (x : XS h0 h F T j xb q first all as_ ar) (hij : i ≠ j) (y : RowsJ h0 h F T j xb as_ t R) (hal : all.length + R.length ≤ 100000) {K : Hp → Prop}
    (hK : ∀ h' as', PL h0 h' F (retag T h.size j) i db lb d S rs rr → XS h0 h' F (retag T h.size j) j xb q first (all ++ R.map (·.2)) as' (ar ++ R) → h.size ≤ h'.size → (∀ b, b < h.size → (T b ≠ j ∨ F b ≠ 0) → h'[b]? = h[b]?) → Ext h0 h' → K h') :
    AppC ty_suint8 1 24 #[.slice Sl.nil.base Sl.nil.len Sl.nil.cap] as_ t h fun s vh14 =>
      ∃ a6 : Addr, (some ⟨xb, 0, none⟩ : Option Addr) = some a6 ∧ StOk vh14 (a6.add 2) ∧ Lt (hset vh14 (a6.add 2) (.slice s.base s.len s.cap)) fun vh15 => K vh15 := by
  have s0 := g.p.ext.size
  refine x.push s0 y.r y.rb hal (fun b hb => g.p.dev.free hb) fun h7 as7 x7 s7 y7 z7 => ?_
  have ex : Ext h0 h7 := ⟨by omega, fun b hb => by rw [z7 b hb, g.p.ext.block b hb]⟩
  exact hK h7 as7 (g.move s7 (fun b hb => retag_old hb) (fun b hb => y7 b (g.p.dev.dom b hb).2 (.inr hb)) (fun b hb hT => y7 b hb (.inl (by rw [hT]; exact hij))) ex) x7 s7 y7 ex
theorem SeglogTurns_law {h : Hp} (n : Int) (_ : (Lit.int .i64 n).wf = true) (turns : Int) (_ : (Lit.int .i64 turns).wf = true) (keep : Int) (_ : (Lit.int .i64 keep).wf = true) :
    HCalls Try.prog fn_scarplaw18_SeglogTurns #[.int .i64 n, .int .i64 turns, .int .i64 keep] h (Yes h) := by
  apply scarplaw18_SeglogTurns_vc
  unfold vcscarplaw18_SeglogTurns
  refine IfB.dec (fun _ => aw18 (.refl h)) (fun a1 => IfB.dec (fun _ => aw18 (.refl h)) (fun a2 => IfB.dec (fun _ => aw18 (.refl h)) (fun a3 => IfB.dec (fun _ => aw18 (.refl h)) (fun a4 => IfB.dec (fun _ => aw18 (.refl h)) (fun a5 => IfB.dec (fun _ => aw18 (.refl h)) (fun a6 => ?_))))))
  obtain ⟨N, rfl⟩ : ∃ N : Nat, n = N := ⟨n.toNat, by omega⟩
  obtain ⟨U, rfl⟩ : ∃ U : Nat, turns = U := ⟨turns.toNat, by omega⟩
  obtain ⟨Q, rfl⟩ : ∃ Q : Nat, keep = Q := ⟨keep.toNat, by omega⟩
  refine (dev18_spec h).mono ?_
  rintro _ h1 ⟨_, _, rfl, F, db, rfl, rfl, x, e1⟩
  refine ⟨_, _, rfl, .no rfl ?_⟩
  refine newLg x e1 (low := 3) (high := 4) (by omega) (by omega) fun F2 h2 lb rs rr d2 S2 p2 l2 to2 he2 ho2 _ _ hlb ri2 => ?_
  refine .no rfl (.no rfl ?_)
  intro h3
  have e3 : Ext h2 h3 := alc_ext _ _ _
  have sz3 : h3.size = h2.size + 1 := size_alc _ _ _
  have s02 := p2.ext.size
  have hlb2 := p2.la.row.lt
  let T3 : Nat → Nat := fun b => if b < h2.size then 1 else 2
  have g3 : PL h h3 F2 T3 1 db lb d2 S2 rs rr := ⟨p2.app e3, if_pos hlb2, ⟨fun a ha => if_pos (p2.la.rin.out a ha).2.1, fun p hp a ha => if_pos (p2.la.rin.each p hp a ha).2.1⟩⟩
  have x3 : XS h h3 F2 T3 2 h2.size none 0 [] Sl.nil [] := ⟨⟨Row.alc _ _ _, RowsR.nil _, rfl⟩, Own.nil _ _ _, ⟨s02, p2.dev.free (Nat.le_refl _), if_neg (by omega)⟩, fun a ha => (by cases ha), fun p hp => by simp at hp⟩
  have rel3 : Rel S2 0 [] := ⟨to2.first, Nat.le_refl _, to2.recs⟩
  refine ⟨fun i m h' => ∃ (k : Nat) (F T : Nat → Nat) (d : Dv) (S : LgV) (rs : Sl) (rr : List (Sl × List UInt8)) (first : Nat) (all : List (List UInt8)) (as_ : Sl) (ar : List (Sl × List UInt8)), i = k ∧ m + k = U ∧ PL h h' F T 1 db lb d S rs rr ∧ Live d ∧ XS h h' F T 2 h2.size none first all as_ ar ∧ Rel S first all ∧ S.count = 1 ∧ S.size = 96 ∧ S.epoch ≤ 2 * k ∧ all.length ≤ k * 40, U,
    ⟨0, F2, T3, d2, S2, rs, rr, 0, [], Sl.nil, [], rfl, rfl, g3, l2, x3, rel3, to2.count, to2.size, by omega, by simp⟩, ?_⟩
  rintro _ _ m h4 ⟨k, F4, T4, d4, S4, rs4, rr4, first, all, as_, ar, rfl, hm, g4, l4, x4, rel4, hcount, hsize, hep, hal⟩
  refine IfB.dec (fun hlt => ?_) (fun hge => ?_)
  · have hk : k < 60 := by omega
    refine ⟨fun h' => ∃ (F T : Nat → Nat) (d : Dv) (S : LgV) (rs : Sl) (rr : List (Sl × List UInt8)) (first : Nat), PL h h' F T 1 db lb d S rs rr ∧ Live d ∧ XS h h' F T 2 h2.size none first all as_ ar ∧ Rel S first all ∧ S.count = 1 ∧ S.size = 96 ∧ S.epoch ≤ 2 * k + 1, ?_, ?_⟩
    · refine (lawRoom_spec x4.x rel4.le (by omega) N 2 (by omega) (by omega)).mono ?_
      rintro _ h4' ⟨rfl, hh⟩
      obtain rfl := hh.symm
      refine ⟨_, rfl, IfB.not (IfB.dec (fun hroom => ?_) (fun hno => ?_))⟩
      · exact ⟨F4, T4, d4, S4, rs4, rr4, first, g4, l4, x4, rel4, hcount, hsize, by omega⟩
      · have hasl := x4.x.len.1
        have hle := rel4.le
        refine ⟨_, rfl, _, x4.x.row.get rfl, _, rfl, as_, x4.x.row.get rfl, ?_⟩
        refine ⟨fun kk h' => h4 = h' ∧ ∃ j : Nat, kk = j ∧ first ≤ j ∧ j ≤ all.length, ?_, ?_⟩
        · refine ⟨fun kk m h' => h4 = h' ∧ ∃ j : Nat, kk = j ∧ first ≤ j ∧ j + m = all.length, all.length - (max first (all.length - Q)), ⟨rfl, max first (all.length - Q), ?_, by omega, by omega⟩, ?_⟩
          · rw [iSub64 (by omega)]
            split <;> omega
          rintro _ _ m2 _ ⟨rfl, j, rfl, hj1, hj2⟩
          refine ⟨_, rfl, as_, x4.x.row.get rfl, IfB.dec (fun _ => ⟨_, rfl, as_, x4.x.row.get rfl, IfB.dec (fun hlt2 => ⟨m2 - 1, by omega, rfl, j + 1, by rw [iAdd64 (by omega)]; push_cast; rfl, by omega, by omega⟩) (fun _ => ⟨rfl, j, rfl, hj1, by omega⟩)⟩) (fun _ => ⟨rfl, j, rfl, hj1, by omega⟩)⟩
        · rintro _ _ _ ⟨rfl, j, rfl, hj1, hj2⟩
          have hfi := rel4.at_
          have hrl := rel4.len
          refine trimLg g4.p l4 ⟨by omega, by omega⟩ (k := j) (by omega) (by omega) fun F6 h6 rs6 rr6 d6 S6 p6 l6 to6 ho6 fr6 hP6 => ?_
          refine .no rfl ?_
          have g6 := g4.op p6 hP6
          have x6 : XS h h6 F6 (retag T4 h4.size 1) 2 h2.size none first all as_ ar := x4.op fr6 (by rw [g4.lt]; omega) fun b hb => retag_old hb
          refine x6.setFirst j rfl fun h7 x7 s7 o7 => ?_
          have hxb6 : F6 h2.size = 0 := x6.xb0.2.1
          have g7 : PL h h7 F6 (retag T4 h4.size 1) 1 db lb d6 S6 rs6 rr6 := g6.move (by omega) (fun _ _ => rfl) (fun b hb => o7 b fun e => hb (by rw [e]; exact hxb6)) (fun b hb hT => o7 b fun e => by
            have := x6.xb0.2.2
            rw [e, this] at hT; omega) ⟨by have := p6.ext.size; omega, fun b hb => by rw [o7 b (by have := x6.xb0.1; omega), p6.ext.block b hb]⟩
          exact ⟨F6, _, d6, S6, rs6, rr6, j, g7, l6, x7, rel4.trim hj1 hj2 to6, by rw [to6.count]; exact hcount, by rw [to6.size]; exact hsize, by have := to6.epoch; omega⟩
    · rintro _ h5 ⟨F5, T5, d5, S5, rs5, rr5, first5, g5, l5, x5, rel5, hcount5, hsize5, hep5⟩
      refine (lawRoom_spec x5.x rel5.le (by omega) N 2 (by omega) (by omega)).mono ?_
      rintro _ h5' ⟨rfl, hh⟩
      obtain rfl := hh.symm
      refine ⟨_, rfl, IfB.not (IfB.dec (fun hroom => ?_) (fun hno => aw18 g5.p.ext))⟩
      have hasl := x5.x.len.1
      refine ⟨_, rfl, as_, x5.x.row.get rfl, ?_⟩
      rw [hasl]
      refine (recs_spec all.length N 5 (by omega) (by omega) (by omega) h5).mono ?_
      rintro _ h6 ⟨t, R, rfl, o6, hR, e6⟩
      refine ⟨t, rfl, ?_⟩
      have hRl : R.length = N := by
        have := congrArg List.length hR
        rw [List.length_map, recsL_length] at this; exact this
      have hRs : ∀ p ∈ R, p.2.length = 5 := fun p hp => recsL_size _ N 5 _ (by rw [← hR]; exact List.mem_map.2 ⟨p, hp, rfl⟩)
      have g6 : PL h h6 F5 (retag T5 h5.size 2) 1 db lb d5 S5 rs5 rr5 := g5.ext e6 fun b hb => retag_old hb
      have x6 : XS h h6 F5 (retag T5 h5.size 2) 2 h2.size none first5 all as_ ar := x5.ext e6 fun b hb => retag_old hb
      have y6 := RowsJ.mk' x5 o6 fun b hb => g5.p.dev.free hb
      have hrl := rel5.len
      have hfi := rel5.at_
      have hle := rel5.le
      refine appStep g6 l5 x6 (by omega) rel5 (by omega) (by omega) y6 (by omega) (by omega) (fun p hp => by rw [hRs p hp]; omega) (by rw [hcount5, hsize5]; omega) fun F7 h7 d7 S7 rs7 rr7 g7 l7 x7 y7 rel7 to7 ho7 fr7 => ?_
      refine .no rfl ⟨_, rfl, as_, x7.x.row.get rfl, .no (by rw [hasl]; simp) ⟨_, rfl, as_, x7.x.row.get rfl, ?_⟩⟩
      refine pushStep g7 x7 (by omega) y7 (by omega) fun h8 as8 g8 x8 s8 _ _ => ?_
      exact ⟨m - 1, by omega, k + 1, F7, _, d7, S7, rs7, rr7, first5, _, as8, _, by rw [iAdd64 (by omega)]; push_cast; rfl, by omega, g8, l7, x8, rel7, by rw [to7.count]; exact hcount5, by rw [to7.size]; exact hsize5, by have := to7.epoch; omega, by rw [List.length_append, List.length_map]; omega⟩
  · refine (g4.same x4 rel4 (by omega)).mono ?_
    rintro _ h6 ⟨rfl, e6⟩
    exact ⟨_, rfl, .yes rfl (aw18 (g4.p.ext.trans e6))⟩

end Go.Proofs.Ytippdkokbhejmaa
