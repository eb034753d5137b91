/-
  The laws of chapter 18: a log as they use it; what it should tell; awake.
-/
import Derived.Test.YtippdkokbhejmaaSeg6
import Derived.Test.YtippdkokbhejmaaAlike
import Derived.Test.YtippdkokbhejmaaBlockB
import Derived.Test.YtippdkokbhejmaaHStr
import Derived.Test.YtippdkokbhejmaaStr
import Derived.Test.YtippdkokbhejmaaBridge
namespace Go.Proofs.Ytippdkokbhejmaa
set_option linter.unusedVariables false
set_option linter.unusedSimpArgs false

theorem dev18_spec (h : Hp) : HCalls Try.prog fn_scarplaw18_dev #[] h fun r vh => ∃ c : Option Addr, ∃ c1 : Bool, r = .tuple #[.pointer c, .bool c1] ∧ ∃ F b, c = some ⟨b, 0, none⟩ ∧ c1 = true ∧ DevAt h.size F vh b (Dv.new 8 96) ∧ Ext h vh := by
  apply scarplaw18_dev_vc
  unfold vcscarplaw18_dev
  refine (New_spec 8 96 h).mono ?_
  rintro _ h1 ⟨e1, ⟨hno, _⟩ | ⟨_, F, b, rfl, x⟩⟩
  · exact absurd ⟨by omega, by omega⟩ hno
  · exact ⟨_, _, rfl, .yes rfl ⟨_, _, rfl, F, b, rfl, rfl, x, e1⟩⟩
/-- a log that plays: its device is the law's own. -/
structure LgF (h0 h : Hp) (F : Nat → Nat) (db lb : Nat) (d : Dv) (S : LgV) (rs : Sl) (rr : List (Sl × List UInt8)) : Prop where
  dev : DevAt h0.size F h db d
  ext : Ext h0 h
  n : d.n = 8
  size : d.size = 96
  la : LogAt F h lb db S rs rr
  lb0 : h0.size ≤ lb
  inv : LgInv d S
  on : S.off = false
theorem LgF.app {h0 h h' : Hp} {F : Nat → Nat} {db lb : Nat} {d : Dv} {S : LgV} {rs : Sl} {rr : List (Sl × List UInt8)} (p : LgF h0 h F db lb d S rs rr) (e : Ext h h') : LgF h0 h' F db lb d S rs rr :=
  ⟨p.dev.ext e, p.ext.trans e, p.n, p.size, p.la.ext e, p.lb0, p.inv, p.on⟩
/-- what is as it was behind an op. -/
structure FrL (F F' : Nat → Nat) (h h' : Hp) (lb : Nat) : Prop where
  size : h.size ≤ h'.size
  role : ∀ b, b < h.size → F' b = F b
  block : ∀ b, b < h.size → F b = 0 → b ≠ lb → h'[b]? = h[b]?
theorem reads_pre {d : Dv} {S : LgV} (v : LgPre d S) (q : Int) : LgPre (withReads d q) S ∧ S.B (withReads d q) = S.B d := by
  have hB : S.B (withReads d q) = S.B d := zRows_reads _ _ _ _
  have hX : S.X (withReads d q) = S.X d := zRows_reads _ _ _ _
  exact ⟨⟨v.wf.reads q, v.n, v.cnt, v.size, v.half, v.good, by rw [hB]; exact v.kc, by rw [hX]; exact v.ko, by rw [hB]; exact v.scan, by rw [hX]; exact v.oth, v.ep⟩, hB⟩
/-- Open, the power on. -/
theorem openLg {h0 h : Hp} {F : Nat → Nat} {db : Nat} {d : Dv} {S : LgV} (x : DevAt h0.size F h db d) (e0 : Ext h0 h) (n : d.n = 8) (sz : d.size = 96) (l : Live d) (v : LgPre d S) {low high : Nat} (hlw : S.low = low) (hct : S.count = (high - low + 1) / 2) (hlt : low < high) (hhn : high < 8) {K : Option Addr → Int → Hp → Prop}
    (hK : ∀ F' h' lb rs rr d' S', LgF h0 h' F' db lb d' S' rs rr → Live d' → LgTo S S' S.first S.recs → S'.epoch = S.epoch → (∀ j, (j < S.low ∨ S.low + 2 * S.count ≤ j) → (d'.z j).rows = (d.z j).rows) → Chg F h h' → (∀ b, b < h.size → F' b = F b) → h.size ≤ lb → RowsIn (fun b => h.size ≤ b) rs rr → K (some ⟨lb, 0, none⟩) 0 h') :
    HCalls Try.prog fn_seglog_Open #[dp db, .int .i64 (low : Int), .int .i64 (high : Int)] h fun r vh => ∃ c : Option Addr, ∃ c1 : Int, r = .tuple #[.pointer c, .int .i64 c1] ∧ K c c1 vh := by
  refine (logOpen_spec x v hlw hct hlt (by omega)).mono ?_
  rintro _ h1 ⟨q, F', x', g', c', hcase⟩
  obtain ⟨vq, hBq⟩ := reads_pre v q
  let T : LgV := { S with pos := (S.B d).length, off := false }
  have vT : LgPre (withReads d q) T := vq.same vq.wf rfl rfl rfl rfl rfl rfl rfl rfl rfl vq.good fun _ _ _ => rfl
  obtain ⟨m1, m2, m3, m4⟩ := mendV_any vT (show T.pos = (T.B (withReads d q)).length by show (S.B d).length = (S.B (withReads d q)).length; rw [hBq])
  have lq : Live (withReads d q) := l
  have hl := lq.mendV T
  have h0' : (mendV (withReads d q) T).1 = 0 ∧ LgInv (mendV (withReads d q) T).2 T := by
    rcases m4 with h | h
    · exact h
    · exact absurd h hl.1
  rcases hcase with ⟨hne, _⟩ | ⟨_, lb, rs, rr, hlb, rfl, la, ri⟩
  · exact absurd h0'.1 hne
  exact ⟨_, _, rfl, hK F' h1 lb rs rr _ T ⟨x', c'.ext e0 fun b hb => x.F0 hb, m1.n.trans n, m1.size.trans sz, la, by have := e0.size; omega, h0'.2, rfl⟩ hl.2 ⟨rfl, rfl, rfl, rfl, rfl, Nat.le_succ _⟩ rfl (fun j hj => by rw [m2 j hj]; rfl) c' g' hlb ri⟩
/-- Append, the power on. -/
theorem appendLg {h0 h : Hp} {F : Nat → Nat} {db lb : Nat} {d : Dv} {S : LgV} {rs : Sl} {rr : List (Sl × List UInt8)} (p : LgF h0 h F db lb d S rs rr) (l : Live d) {s : Sl} {R : List (Sl × List UInt8)} (hs : Small S R.length)
    (r : RowsR h s R) (ri : RowsIn (fun b => F b = 0 ∧ b < h.size ∧ b ≠ lb) s R) (h1 : 1 ≤ R.length) (h2 : R.length ≤ 40) (h40 : ∀ p ∈ R, p.2.length ≤ 40) {K : Int → Int → Hp → Prop}
    (hK : ∀ F' h' rs' rr' d' S', LgF h0 h' F' db lb d' S' rs' rr' → Live d' → LgTo S S' S.first (S.recs ++ R.map (·.2)) → (∀ j, (j < S.low ∨ S.low + 2 * S.count ≤ j) → (d'.z j).rows = (d.z j).rows) → FrL F F' h h' lb → (∀ P : Nat → Prop, RowsIn P rs rr → (∀ b, h.size ≤ b → P b) → RowsIn P rs' rr') → K ((S.first + S.recs.length : Nat) : Int) 0 h')
    (hK9 : ∀ F' h' rs' rr', LgF h0 h' F' db lb d S rs' rr' → FrL F F' h h' lb → (∀ P : Nat → Prop, RowsIn P rs rr → (∀ b, h.size ≤ b → P b) → RowsIn P rs' rr') → S.count * S.size < S.recs.length + R.length + 2 → K 0 9 h') :
    HCalls Try.prog fn_seglog_Log_Append #[lp lb, .slice s.base s.len s.cap] h fun w vh => ∃ c : Int, ∃ c1 : Int, w = .tuple #[.int .i64 c, .int .i64 c1] ∧ K c c1 vh := by
  have h40' : ∀ r ∈ R.map (·.2), r.length ≤ 40 := fun q hq => by obtain ⟨y, hy, rfl⟩ := List.mem_map.1 hq; exact h40 y hy
  refine (logAppend_spec p.dev p.ext.size p.la p.inv p.on hs r ri h1 h2 h40).mono ?_
  have pr := app_put p.inv (R := R.map (·.2)) (by rw [List.length_map]; exact hs) h40'
  have hlive : (appV d S (R.map (·.2))).1 ≠ 12 ∧ Live (appV d S (R.map (·.2))).2.1 := l.putV S _ _ _
  generalize appV d S (R.map (·.2)) = X at pr hlive
  rintro _ h3 ⟨rfl, rs', rr', ⟨F', x', la', s', g', y'⟩, hP⟩
  have ex : Ext h0 h3 := ⟨by have := p.ext.size; omega, fun b hb => by have := p.ext.size; have := p.lb0; rw [y' b (by omega) (p.dev.F0 hb) (by omega), p.ext.block b hb]⟩
  rcases pr.res with ⟨e, inv, to, off⟩ | ⟨e, e2, e3, hno, hroom⟩ | ⟨e, _⟩
  · rw [e, if_pos rfl]
    exact ⟨_, _, rfl, hK F' h3 rs' rr' _ _ ⟨x', ex, pr.nx.n.trans p.n, pr.nx.size.trans p.size, la', p.lb0, inv, by rw [off]; exact p.on⟩ hlive.2 to pr.out ⟨s', g', y'⟩ hP⟩
  · rw [e, if_neg (by omega)]
    rw [e2] at x'
    rw [e3] at la'
    refine ⟨_, _, rfl, hK9 F' h3 rs' rr' ⟨x', ex, p.n, p.size, la', p.lb0, p.inv, p.on⟩ ⟨s', g', y'⟩ hP ?_⟩
    rw [List.length_append, List.length_map] at hroom; exact hroom
  · exact absurd e hlive.1
/-- Trim, the power on. -/
theorem trimLg {h0 h : Hp} {F : Nat → Nat} {db lb : Nat} {d : Dv} {S : LgV} {rs : Sl} {rr : List (Sl × List UInt8)} (p : LgF h0 h F db lb d S rs rr) (l : Live d) (hs : Small S 0) {k : Nat} (h1 : S.first ≤ k) (h2 : k ≤ S.first + S.recs.length) {K : Int → Hp → Prop}
    (hK : ∀ F' h' rs' rr' d' S', LgF h0 h' F' db lb d' S' rs' rr' → Live d' → LgTo S S' k (S.recs.drop (k - S.first)) → (∀ j, (j < S.low ∨ S.low + 2 * S.count ≤ j) → (d'.z j).rows = (d.z j).rows) → FrL F F' h h' lb → (∀ P : Nat → Prop, RowsIn P rs rr → (∀ b, h.size ≤ b → P b) → RowsIn P rs' rr') → K 0 h') :
    HCalls Try.prog fn_seglog_Log_Trim #[lp lb, .int .i64 (k : Int)] h fun w vh => ∃ c : Int, w = .int .i64 c ∧ K c vh := by
  refine (logTrim_spec p.dev p.ext.size p.la p.inv p.on hs h1 h2).mono ?_
  rintro _ h3 ⟨rfl, rs', rr', ⟨F', x', la', s', g', y'⟩, hP⟩
  have ex : Ext h0 h3 := ⟨by have := p.ext.size; omega, fun b hb => by have := p.ext.size; have := p.lb0; rw [y' b (by omega) (p.dev.F0 hb) (by omega), p.ext.block b hb]⟩
  by_cases hk : k = S.first
  · have ht : trimV d S k = (0, d, S) := by unfold trimV; rw [if_pos hk]
    rw [ht] at x' la' ⊢
    exact ⟨_, rfl, hK F' h3 rs' rr' d S ⟨x', ex, p.n, p.size, la', p.lb0, p.inv, p.on⟩ l ⟨rfl, rfl, rfl, hk.symm, by rw [hk, Nat.sub_self, List.drop_zero], Nat.le_succ _⟩ (fun _ _ => rfl) ⟨s', g', y'⟩ hP⟩
  · have pr := trim_put p.inv hs h1 h2 hk
    have hlive : (trimV d S k).1 ≠ 12 ∧ Live (trimV d S k).2.1 := by unfold trimV; rw [if_neg hk]; exact l.putV S _ _ _
    generalize trimV d S k = X at pr hlive x' la'
    rcases pr.res with ⟨e, inv, to, off⟩ | ⟨e, e2, e3, hno, hroom⟩ | ⟨e, _⟩
    · rw [e]
      exact ⟨_, rfl, hK F' h3 rs' rr' _ _ ⟨x', ex, pr.nx.n.trans p.n, pr.nx.size.trans p.size, la', p.lb0, inv, by rw [off]; exact p.on⟩ hlive.2 to pr.out ⟨s', g', y'⟩ hP⟩
    · exfalso
      have hc := p.inv.count
      rw [List.length_drop] at hroom
      have hne : S.recs ≠ [] := by
        intro h
        rw [h] at h2
        simp at h2
        omega
      have hf : flg S.recs = 1 := by
        cases h : S.recs with
        | nil => exact absurd h hne
        | cons a b => rfl
      omega
    · exact absurd e hlive.1

/-! ### What a log should tell -/
/-- a record of a law: what should be told. -/
structure XAt (h : Hp) (xb : Nat) (q : Option Addr) (first : Nat) (all : List (List UInt8)) (as_ : Sl) (ar : List (Sl × List UInt8)) : Prop where
  row : Row h xb [.pointer q, .int .i64 (first : Int), .slice as_.base as_.len as_.cap]
  rows : RowsR h as_ ar
  eq : ar.map (·.2) = all
theorem XAt.len {h : Hp} {xb : Nat} {q : Option Addr} {first : Nat} {all : List (List UInt8)} {as_ : Sl} {ar : List (Sl × List UInt8)} (x : XAt h xb q first all as_ ar) : as_.len = all.length ∧ as_.len = ar.length := by
  have := x.rows.len
  have h2 := congrArg List.length x.eq
  simp at h2; omega
theorem XAt.ext {h h' : Hp} {xb : Nat} {q : Option Addr} {first : Nat} {all : List (List UInt8)} {as_ : Sl} {ar : List (Sl × List UInt8)} (x : XAt h xb q first all as_ ar) (e : Ext h h') : XAt h' xb q first all as_ ar := ⟨x.row.ext e, x.rows.ext e, x.eq⟩
theorem lawRoom_spec {h : Hp} {xb : Nat} {q : Option Addr} {first : Nat} {all : List (List UInt8)} {as_ : Sl} {ar : List (Sl × List UInt8)} (x : XAt h xb q first all as_ ar) (hf : first ≤ all.length) (ha : all.length ≤ 1000000) (n zones : Nat) (hn : n ≤ 1000) (hz : 1 ≤ zones ∧ zones ≤ 1000) :
    HCalls Try.prog fn_scarplaw18_log_room #[lp xb, .int .i64 (n : Int), .int .i64 (zones : Int)] h fun r h' => r = .bool (decide (2 * (all.length - first + n) ≤ (zones - 1) * 88)) ∧ h' = h := by
  apply scarplaw18_log_room_vc
  unfold vcscarplaw18_log_room
  have hl := x.len.1
  refine ⟨_, rfl, as_, x.row.get rfl, _, rfl, _, x.row.get rfl, ?_, rfl⟩
  have e1 : iSub .i64 (as_.len : Int) (first : Int) = ((all.length - first : Nat) : Int) := by rw [iSub64 (by omega)]; omega
  have e2 : iAdd .i64 ((all.length - first : Nat) : Int) (n : Int) = ((all.length - first + n : Nat) : Int) := by rw [iAdd64 (by omega)]; push_cast; rfl
  have e3 : iMul .i64 (2 : Int) ((all.length - first + n : Nat) : Int) = ((2 * (all.length - first + n) : Nat) : Int) := by rw [iMul64 (by omega)]; push_cast; rfl
  have e4 : iSub .i64 (zones : Int) (1 : Int) = ((zones - 1 : Nat) : Int) := by rw [iSub64 (by omega)]; omega
  have e5 : iMul .i64 ((zones - 1 : Nat) : Int) (88 : Int) = (((zones - 1) * 88 : Nat) : Int) := by rw [iMul64 (by omega)]; push_cast; rfl
  rw [e1, e2, e3, e4, e5]
  congr 1
  rw [decide_eq_decide]
  exact Int.ofNat_le
def recsL (from_ : Nat) (n size : Nat) : List (List UInt8) := (List.range n).map fun i => blockL size ((from_ + i : Nat) : Int)
theorem recsL_length (f n s : Nat) : (recsL f n s).length = n := by simp [recsL]
theorem recsL_size (f n s : Nat) : ∀ r ∈ recsL f n s, r.length = s := by
  intro r hr
  obtain ⟨i, _, rfl⟩ := List.mem_map.1 hr
  exact blockL_length _ _
theorem recs_spec (f n size : Nat) (hf : f ≤ 1000000) (hn : n ≤ 1000) (hs : size ≤ 1000) (h : Hp) :
    HCalls Try.prog fn_scarplaw18_recs #[.int .i64 (f : Int), .int .i64 (n : Int), .int .i64 (size : Int)] h fun r h' => ∃ (t : Sl) (rows : List (Sl × List UInt8)), r = .slice t.base t.len t.cap ∧ OwnRows h.size h' t rows ∧ rows.map (·.2) = recsL f n size ∧ Ext h h' := by
  apply scarplaw18_recs_vc
  unfold vcscarplaw18_recs
  refine ⟨fun out i m h' => ∃ (k : Nat) (rows : List (Sl × List UInt8)), i = k ∧ m + k = n ∧ Ext h h' ∧ OwnRows h.size h' out rows ∧ rows.map (·.2) = recsL f k size ∧ rows.length = k, n, ⟨0, [], rfl, rfl, .refl h, OwnRows.nil _ _, rfl, rfl⟩, ?_⟩
  rintro _ out _ m h1 ⟨k, rows, rfl, hm, e1, o1, hrows, hrl⟩
  have s1 := e1.size
  refine IfB.dec (fun hlt => ?_) (fun hge => ?_)
  · have ea : iAdd .i64 (f : Int) (k : Int) = ((f + k : Nat) : Int) := by rw [iAdd64 (by omega)]; push_cast; rfl
    rw [ea]
    refine (Block_spec (size : Int) ((f + k : Nat) : Int) (by omega) h1).mono ?_
    rintro _ h2 ⟨u, rfl, ou, lu, e2⟩
    rw [Int.toNat_natCast] at ou
    refine ⟨u, rfl, ?_⟩
    intro h3
    refine OwnRows.push rfl o1 s1 e2 ou (by omega) (fun q h4 o4 l4 k4 _ _ => ?_) (by omega)
    refine ⟨m - 1, by omega, k + 1, _, by rw [iAdd64 (by omega)]; push_cast; rfl, by omega, (e1.toKeep.trans k4).ext, o4, ?_, by simp [hrl]⟩
    rw [List.map_append, hrows]
    unfold recsL
    rw [List.range_succ, List.map_append]; rfl
  · obtain rfl : k = n := by omega
    exact ⟨out, rows, rfl, o1, hrows, e1⟩
/-- does a log tell just that? -/
def sameB (first : Nat) (all : List (List UInt8)) (S : LgV) : Bool := decide (S.first = first ∧ S.first + S.recs.length = all.length ∧ S.recs = all.drop first)
theorem same_spec {F : Nat → Nat} {h : Hp} {lb db xb : Nat} {S : LgV} {rs : Sl} {rr : List (Sl × List UInt8)} {q : Option Addr} {first : Nat} {all : List (List UInt8)} {as_ : Sl} {ar : List (Sl × List UInt8)} (la : LogAt F h lb db S rs rr) (x : XAt h xb q first all as_ ar) (hb : S.first + S.recs.length ≤ 1000000) (h40 : ∀ r ∈ S.recs, r.length ≤ 40) (hfa : first ≤ all.length) (ha : all.length ≤ 1000000) :
    HCalls Try.prog fn_scarplaw18_log_same #[lp xb, lp lb] h fun r h' => r = .bool (sameB first all S) ∧ Ext h h' := by
  apply scarplaw18_log_same_vc
  unfold vcscarplaw18_log_same
  have hl := x.len
  have hrl := la.rl
  refine ⟨_, rfl, _, x.row.get rfl, ?_⟩
  refine (First_spec la.row).mono ?_
  rintro _ h' ⟨rfl, hh⟩
  obtain rfl := hh.symm
  refine ⟨_, rfl, .refl _, IfB.ne (fun hne => ⟨by unfold sameB; rw [decide_eq_false]; rintro ⟨h1, _⟩; exact hne (by rw [h1]), .refl _⟩) (fun heq => ?_)⟩
  have hfirst : S.first = first := Int.ofNat_inj.1 heq
  refine ⟨_, rfl, as_, x.row.get rfl, ?_⟩
  refine (Len_spec la hb).mono ?_
  rintro _ h' ⟨rfl, hh⟩
  obtain rfl := hh.symm
  refine ⟨_, rfl, .refl _, IfB.ne (fun hne => ⟨by unfold sameB; rw [decide_eq_false]; rintro ⟨_, h1, _⟩; exact hne (by rw [h1, hl.1]), .refl _⟩) (fun heq2 => ?_)⟩
  have hlen : S.first + S.recs.length = all.length := by omega
  refine ⟨_, rfl, _, x.row.get rfl, ?_⟩
  refine ⟨fun i m h' => ∃ k : Nat, i = ((first + k : Nat) : Int) ∧ m + k = S.recs.length ∧ Ext h h' ∧ ∀ j, j < k → S.recs[j]? = all[first + j]?, S.recs.length, ⟨0, rfl, rfl, .refl _, fun j hj => by omega⟩, ?_⟩
  rintro _ _ m h1 ⟨k, rfl, hm, e1, hall⟩
  have x1 := x.ext e1
  have la1 := la.ext e1
  refine ⟨_, rfl, as_, x1.row.get rfl, IfB.dec (fun hlt => ?_) (fun hge => ?_)⟩
  · have hk : k < S.recs.length := by omega
    refine (LogRead_spec la1 hb h40 _).mono ?_
    rintro _ h2 ⟨e2, t, e, rfl, ⟨hno, _⟩ | ⟨j, hj, hjk, rfl, ot⟩⟩
    · exact absurd ⟨by omega, by omega⟩ hno
    obtain rfl : j = k := by omega
    refine ⟨t, _, rfl, .no rfl ⟨_, rfl, as_, (x1.ext e2).row.get rfl, ?_⟩⟩
    have hix : first + j < ar.length := by omega
    have hia : first + j < all.length := by omega
    refine ixS (x1.ext e2).rows.rd.rd hl.2 (first + j) rfl hix ?_
    have hval : ar[first + j].2 = all[first + j] := by
      have : (ar.map (·.2))[first + j]? = all[first + j]? := by rw [x.eq]
      rw [List.getElem?_map, List.getElem?_eq_getElem hix, List.getElem?_eq_getElem hia] at this
      exact Option.some.inj this
    have r2 := (x1.ext e2).rows.each _ (List.getElem_mem hix)
    rw [hval] at r2
    refine (Bytes_spec ot.toRd r2 (by have := h40 _ (List.getElem_mem hj); omega)).mono ?_
    rintro _ h2' ⟨rfl, hh⟩
    obtain rfl := hh.symm
    refine ⟨_, rfl, IfB.not (IfB.dec (fun he => ?_) (fun hne => ⟨?_, e1.trans e2⟩))⟩
    · refine ⟨m - 1, by omega, j + 1, by rw [iAdd64 (by omega)]; push_cast; omega, by omega, e1.trans e2, fun i hi => ?_⟩
      rcases Nat.lt_or_ge i j with h | h
      · exact hall i h
      · obtain rfl : i = j := by omega
        rw [List.getElem?_eq_getElem hj, List.getElem?_eq_getElem hia, he]
    · unfold sameB
      rw [decide_eq_false]
      rintro ⟨_, _, h3⟩
      apply hne
      have : S.recs[j]? = (all.drop first)[j]? := by rw [← h3]
      rw [List.getElem?_drop, List.getElem?_eq_getElem hj, List.getElem?_eq_getElem hia] at this
      exact Option.some.inj this
  · obtain rfl : k = S.recs.length := by omega
    have hyes : sameB first all S = true := by
      unfold sameB
      rw [decide_eq_true]
      refine ⟨hfirst, hlen, ?_⟩
      apply List.ext_getElem?
      intro j
      rw [List.getElem?_drop]
      by_cases hj : j < S.recs.length
      · exact hall j hj
      · rw [List.getElem?_eq_none (by omega), List.getElem?_eq_none (by omega)]
    rw [hyes]
    have ef : iSub .i64 (first : Int) (1 : Int) = (first : Int) - 1 := by rw [iSub64 (by omega)]
    refine ⟨_, rfl, _, x1.row.get rfl, ?_⟩
    rw [ef]
    refine (LogRead_spec la1 hb h40 _).mono ?_
    rintro _ h2 ⟨e2, t, e, rfl, hc2⟩
    obtain rfl : e = 14 := by
      rcases hc2 with ⟨_, h⟩ | ⟨j, hj, hjk, _⟩
      · exact h
      · omega
    refine ⟨t, _, rfl, _, rfl, as_, (x1.ext e2).row.get rfl, ?_⟩
    refine (LogRead_spec (la1.ext e2) hb h40 _).mono ?_
    rintro _ h3 ⟨e3, t3, e, rfl, hc3⟩
    obtain rfl : e = 14 := by
      rcases hc3 with ⟨_, h⟩ | ⟨j, hj, hjk, _⟩
      · exact h
      · omega
    exact ⟨t3, _, rfl, .yes rfl ⟨rfl, (e1.trans e2).trans e3⟩⟩

end Go.Proofs.Ytippdkokbhejmaa
