/-
  SlotCrash (chapter 19).
-/
import Derived.Test.YtfelkonmhfejdaaLaw19c
import Derived.Test.YtfelkonmhfejdaaSlot8
namespace Go.Proofs.Ytfelkonmhfejdaa
set_option linter.unusedVariables false
set_option linter.unusedSimpArgs false

/-- Save, upon a device of which the power may go. -/
theorem saveC {h0 h : Hp} {F : Nat → Nat} {sb db : Nat} {d : Dv} {S : SlV} {tx t : List UInt8} {ts tl : Sl} (x : DevAt h0.size F h db d) (e0 : Ext h0 h) (g : AllGood d) (sl : SlotAt F h sb db S tx ts) (hsb : h0.size ≤ sb) (o : S.Ok) (h01 : S.f0 < S.f1) (h12 : S.f1 < S.f2) (hsz : S.size = d.size) (hon : S.off = false) (hn : S.f2 ≤ d.n) (rt : Rd 1 h tl (t.map bv)) (tb : ∀ a, tl.base = some a → F a.block = 0 ∧ a.block < h.size ∧ a.block ≠ sb) (htl : t.length ≤ 1000000)
    (hfit : ¬ S.room < (t.length : Int)) (v : SlInv d S.f0 S.f1 S.f2 S.inn tx S.count) {K : Int → Hp → Prop}
    (hK : ∀ F' h' ts' d', DevAt h0.size F' h' db d' → NxD d d' → AllGood d' → SlInv d' S.f0 S.f1 S.f2 (1 - S.inn) t (S.count + 1) → SlotAt F' h' sb db { S with inn := 1 - S.inn, count := S.count + 1 } t ts' → Ext h0 h' → h.size ≤ h'.size → (∀ b, b < h.size → F' b = F b) → (∀ b, b < h.size → F b = 0 → b ≠ sb → h'[b]? = h[b]?) → K 0 h')
    (hK12 : ∀ F' h' ts' d', DevAt h0.size F' h' db d' → NxD d d' → (∀ picks torn, SlInv (d'.crash picks torn) S.f0 S.f1 S.f2 S.inn tx S.count ∨ SlInv (d'.crash picks torn) S.f0 S.f1 S.f2 (1 - S.inn) t (S.count + 1)) → SlotAt F' h' sb db { S with off := true } tx ts' → Ext h0 h' → h.size ≤ h'.size → (∀ b, b < h.size → F' b = F b) → (∀ b, b < h.size → F b = 0 → b ≠ sb → h'[b]? = h[b]?) → K 12 h') :
    HCalls Try.prog fn_slot_Slots_Save #[sp sb, .slice tl.base tl.len tl.cap] h fun r vh => ∃ c : Int, r = .int .i64 c ∧ K c vh := by
  refine (Save_spec x e0.size sl o hn rt tb htl).mono ?_
  have hin := o.inn
  have hct := o.count
  have hf : S.f (1 - S.inn) < S.f (1 - S.inn + 1) := by
    rcases (show S.inn = 0 ∨ S.inn = 1 by omega) with e | e
    · rw [e]; show S.f1 < S.f2; exact h12
    · rw [e]; show S.f0 < S.f1; exact h01
  have hf2 := o.f2' (1 - S.inn + 1) (by omega)
  obtain ⟨w1, w2⟩ := wr_any x.1 g (lo := S.f (1 - S.inn)) (hi := S.f (1 - S.inn + 1)) (n := S.count + 1) (t := t) hf (by omega) (by rw [← hsz]; exact room_fits o hfit _ (by omega)) (by omega) htl
  rw [← hsz] at w1 w2
  have hlo : S.f (1 - S.inn) = (if S.inn = 0 then S.f1 else S.f0) := by
    rcases (show S.inn = 0 ∨ S.inn = 1 by omega) with e | e
    · rw [e, if_pos rfl]; rfl
    · rw [e, if_neg (by omega)]; rfl
  have hhi : S.f (1 - S.inn + 1) = (if S.inn = 0 then S.f2 else S.f1) := by
    rcases (show S.inn = 0 ∨ S.inn = 1 by omega) with e | e
    · rw [e, if_pos rfl]; rfl
    · rw [e, if_neg (by omega)]; rfl
  have hlen : S.f (1 - S.inn + 1) - S.f (1 - S.inn) = (if S.inn = 0 then S.f2 - S.f1 else S.f1 - S.f0) := by
    rw [hlo, hhi]; split <;> rfl
  have ext : ∀ {h1 : Hp}, h.size ≤ h1.size → (∀ b, b < h.size → F b = 0 → b ≠ sb → h1[b]? = h[b]?) → Ext h0 h1 := fun s' y' => ⟨by have := e0.size; omega, fun b hb => by rw [y' b (by have := e0.size; omega) (x.F0 hb) (by omega), e0.block b hb]⟩
  rcases w2 with ⟨q1, q2, q3, q4⟩ | ⟨q1, q2⟩
  · have hv : saveV d S tx t = (0, (d.wr (S.f (1 - S.inn)) (S.f (1 - S.inn + 1)) S.size (S.count + 1) t).2, { S with inn := 1 - S.inn, count := S.count + 1 }, t) := by
      unfold saveV; rw [if_neg hfit, if_neg (by rw [hon]; simp), if_neg (by omega)]
    rw [hv]
    generalize (d.wr (S.f (1 - S.inn)) (S.f (1 - S.inn + 1)) S.size (S.count + 1) t) = D at *
    rintro _ h1 ⟨rfl, F', ts', x', sl', s', g', y', b'⟩
    refine ⟨_, rfl, hK F' h1 ts' D.2 x' w1 q4 (v.wrote (Nat.le_of_lt h01) (Nat.le_of_lt h12) w1.size (by omega) htl ?_ fun j h1 h2 h3 => q3 j (by omega)) sl' (ext s' y') s' g' y'⟩
    rw [← hlen, ← hlo]; exact q2
  · have hv : saveV d S tx t = (12, (d.wr (S.f (1 - S.inn)) (S.f (1 - S.inn + 1)) S.size (S.count + 1) t).2, { S with off := true }, tx) := by
      unfold saveV; rw [if_neg hfit, if_neg (by rw [hon]; simp), if_pos (by omega), q1]
    rw [hv]
    generalize (d.wr (S.f (1 - S.inn)) (S.f (1 - S.inn + 1)) S.size (S.count + 1) t) = D at *
    rintro _ h1 ⟨rfl, F', ts', x', sl', s', g', y', b'⟩
    refine ⟨_, rfl, hK12 F' h1 ts' D.2 x' w1 (fun picks torn => ?_) sl' (ext s' y') s' g' y'⟩
    obtain ⟨r1, r2⟩ := q2 picks torn
    refine v.crashed (t := t) (Nat.le_of_lt h01) (Nat.le_of_lt h12) (d' := D.2.crash picks torn) w1.size (by omega) htl (fun j hj => r1 j (by omega)) ?_
    rw [← hlen, ← hlo]; exact r2
/-- Open, upon a device of which the power may go. -/
theorem openAny {h0 h : Hp} {F : Nat → Nat} {db : Nat} {d : Dv} {f0 f1 f2 inn count : Nat} {tx : List UInt8} (x : DevAt h0.size F h db d) (e0 : Ext h0 h) (g : AllGood d) (h01 : f0 < f1) (h12 : f1 < f2) (h2n : f2 ≤ d.n) (v : SlInv d f0 f1 f2 inn tx count) {K : Option Addr → Int → Hp → Prop}
    (hK : ∀ F' h' d' c e, DevAt h0.size F' h' db d' → NxD d d' → (∀ j, (d'.z j).rows = (d.z j).rows) → AllGood d' → Ext h0 h' → (∀ b, b < h.size → F' b = F b) → Chg F h h' → K c e h') :
    HCalls Try.prog fn_slot_Open #[dp db, .int .i64 (f0 : Int), .int .i64 (f1 : Int), .int .i64 (f2 : Int)] h fun r vh => ∃ c : Option Addr, ∃ c1 : Int, r = .tuple #[.pointer c, .int .i64 c1] ∧ K c c1 vh := by
  refine (Open_spec x _ _ _).mono ?_
  have hok : OpenOk d (f0 : Int) (f1 : Int) (f2 : Int) := ⟨by omega, by omega, by omega, by omega⟩
  unfold OpenR
  rw [Int.toNat_natCast f0, Int.toNat_natCast f1, Int.toNat_natCast f2]
  rintro _ h1 (⟨hno, _⟩ | ⟨_, q, ⟨i, hi, hodd⟩, _⟩ | ⟨_, q, F', x', g', c', _, _, hcase⟩)
  · exact absurd hok hno
  · exfalso
    rcases (show i = 0 ∨ i = 1 by omega) with rfl | rfl
    · rw [if_pos rfl, if_pos rfl, v.odd0] at hodd; cases hodd
    · rw [if_neg (by omega), if_neg (by omega), v.odd1] at hodd; cases hodd
  · have dd : NxD d (withReads d q).flush.2 ∧ (∀ j, ((withReads d q).flush.2.z j).rows = (d.z j).rows) ∧ AllGood (withReads d q).flush.2 := by
      rcases flush_any (withReads d q) with e | e
      · rw [e] at x' ⊢; exact ⟨⟨x'.1, rfl, rfl⟩, fun j => rfl, fun j => g j⟩
      · rw [e] at x' ⊢
        exact ⟨⟨x'.1, rfl, rfl⟩, fun j => by rw [Dv.flushed_z]; rfl, fun j => by rw [Dv.flushed_z]⟩
    have ex := c'.ext e0 fun b hb => x.F0 hb
    rcases hcase with ⟨_, rfl⟩ | ⟨_, sb, ts, _, _, rfl, _⟩
    · exact ⟨_, _, rfl, hK F' h1 _ _ _ x' dd.1 dd.2.1 dd.2.2 ex g' c'⟩
    · exact ⟨_, _, rfl, hK F' h1 _ _ _ x' dd.1 dd.2.1 dd.2.2 ex g' c'⟩

/-- while texts are saved. -/
structure CrF (h0 h : Hp) (F : Nat → Nat) (db sb : Nat) (d : Dv) (inn : Nat) (tx : List UInt8) (count : Nat) (ts kept : Sl) : Prop where
  dev : DevAt h0.size F h db d
  ext : Ext h0 h
  n : d.n = 8
  size : d.size = 96
  sl : SlotAt F h sb db (slS 2 4 6 inn count) tx ts
  sb0 : h0.size ≤ sb
  inv : SlInv d 2 4 6 inn tx count
  good : AllGood d
  krd : Rd 1 h kept (tx.map bv)
  kb : ∀ a, kept.base = some a → F a.block = 0 ∧ a.block < h.size ∧ a.block ≠ sb
/-- behind them: what a crash may leave. -/
structure AfF (h0 h : Hp) (F : Nat → Nat) (db : Nat) (d : Dv) (tx tm : List UInt8) (kept may : Sl) (n len : Nat) : Prop where
  dev : DevAt h0.size F h db d
  ext : Ext h0 h
  n8 : d.n = 8
  size : d.size = 96
  krd : Rd 1 h kept (tx.map bv)
  kb : ∀ a, kept.base = some a → F a.block = 0 ∧ a.block < h.size
  mrd : Rd 1 h may (tm.map bv)
  mb : ∀ a, may.base = some a → F a.block = 0 ∧ a.block < h.size
  kl : tx.length ≤ 1000000
  ml : tm.length ≤ 1000000
  le : n ≤ len
  cr : ∀ picks torn, (∃ inn, SlInv (d.crash picks torn) 2 4 6 inn tx n) ∨ (n < len ∧ ∃ inn, SlInv (d.crash picks torn) 2 4 6 inn tm (n + 1))
/-- a device that crashed. -/
def Tg (h0 h : Hp) (db : Nat) (tx : List UInt8) (c : Nat) (want : Sl) : Prop := ∃ F d inn, TdF h0 h F db d 2 4 6 inn tx c want ∧ AllGood d
theorem Tg.td {h0 h : Hp} {db c : Nat} {tx : List UInt8} {want : Sl} (t : Tg h0 h db tx c want) : Td h0 h db 2 4 6 tx c want := by
  obtain ⟨F, d, inn, t, _⟩ := t; exact ⟨F, d, inn, t⟩
theorem Tg.crash {h0 h : Hp} {F : Nat → Nat} {db : Nat} {d : Dv} (x : DevAt h0.size F h db d) (e0 : Ext h0 h) (n8 : d.n = 8) (sz : d.size = 96) {s t : Sl} {picks torn : List Int} (ws : InI .i64 h0 s picks) (wt : InI .i64 h0 t torn) {K : Option Addr → Hp → Prop}
    (hK : ∀ h' cb, Ext h h' → (∀ want tx c, Rd 1 h want (tx.map bv) → (∀ a, want.base = some a → F a.block = 0 ∧ a.block < h.size) → (∃ inn, SlInv (d.crash picks torn) 2 4 6 inn tx c) → Tg h0 h' cb tx c want) → K (some ⟨cb, 0, none⟩) h') :
    HCalls Try.prog fn_zdev_Dev_Crash #[dp db, .slice s.base s.len s.cap, .slice t.base t.len t.cap] h fun r vh => ∃ c : Option Addr, r = .pointer c ∧ K c vh := by
  refine (Crash_spec x ws.len (ws.rd.ext e0) wt.len (wt.rd.ext e0)).mono ?_
  rintro _ h1 ⟨e1, F1, cb, rfl, x1⟩
  refine ⟨_, rfl, hK h1 cb e1 fun want tx c rw_ bw ⟨inn, v⟩ => ⟨F1, _, inn, ⟨x1.low e0.size, e0.trans e1, (crash_ok x.1 picks torn).live, n8, sz, v, rw_.ext e1, fun a ha => ⟨x1.F0 (bw a ha).2, by have := (bw a ha).2; have := e1.size; omega⟩⟩, crash_good x.1 picks torn⟩⟩
theorem SlotCrash_law {h : Hp} (s : Sl) (l : List Int) (w : InI .i64 h s l) (cut : Int) (_ : (Lit.int .i64 cut).wf = true) (sp_ : Sl) (picks : List Int) (wp : InI .i64 h sp_ picks) (st : Sl) (torn : List Int) (wt : InI .i64 h st torn) (sc : Sl) (cuts : List Int) (wc : InI .i64 h sc cuts) :
    HCalls Try.prog fn_scarplaw19_SlotCrash #[.slice s.base s.len s.cap, .int .i64 cut, .slice sp_.base sp_.len sp_.cap, .slice st.base st.len st.cap, .slice sc.base sc.len sc.cap] h (Yes h) := by
  apply scarplaw19_SlotCrash_vc
  unfold vcscarplaw19_SlotCrash
  have hl := w.len
  have hcl := wc.len
  refine IfB.dec (fun _ => aw19 (.refl h)) (fun a1 => IfB.dec (fun _ => aw19 (.refl h)) (fun a2 => IfB.dec (fun _ => aw19 (.refl h)) (fun a3 => IfB.dec (fun _ => aw19 (.refl h)) (fun a4 => IfB.dec (fun _ => aw19 (.refl h)) (fun a5 => IfB.dec (fun _ => aw19 (.refl h)) (fun a6 => ?_))))))
  refine (dev19_spec h).mono ?_
  rintro _ h1 ⟨_, _, rfl, F, db, rfl, rfl, x, e1⟩
  refine ⟨_, _, rfl, .no rfl ?_⟩
  have inv0 := new_inv (f0 := 2) (f1 := 4) (f2 := 6) (by omega) (by omega)
  refine openL x e1 (new_live 8 96) (f0 := 2) (f1 := 4) (f2 := 6) (by omega) (by omega) (by rw [new8.1]; omega) inv0 fun F2 h2 sb ts d2 x2 sm2 g2 sl2 e02 _ _ hsb hts => ?_
  refine .no rfl (.no rfl ?_)
  have hs01 := e1.size
  refine (Cut_spec x2 (n := cut) (by omega)).mono ?_
  rintro _ h3 ⟨rfl, x3, c3⟩
  refine ⟨rfl, ?_⟩
  have sl3 := sl2.chg c3
  have cr0 : CrF h h3 F2 db sb (d2.cutAt cut) 1 [] 0 ts Sl.nil := ⟨x3, c3.ext e02 fun b hb => x2.F0 hb, sm2.ok.n, sm2.ok.size, sl3, by omega, (sm2.inv inv0 (by omega) (by omega)).same rfl (fun _ _ _ => rfl) (by omega) (by omega), g2, Rd.nil _ _, fun a ha => (by cases ha)⟩
  refine ⟨fun kept may n h' => ∃ (N : Nat) (F : Nat → Nat) (d : Dv) (tx tm : List UInt8), n = N ∧ AfF h h' F db d tx tm kept may N l.length, ?_, ?_⟩
  · refine ⟨fun kept may n i m h' => ∃ (k : Nat) (F : Nat → Nat) (d : Dv) (inn : Nat) (tx tm : List UInt8) (ts : Sl), i = k ∧ m + k = l.length ∧ n = k ∧ tx.length ≤ 1000000 ∧ tm.length ≤ 1000000 ∧ CrF h h' F db sb d inn tx k ts kept ∧ Rd 1 h' may (tm.map bv) ∧ (∀ a, may.base = some a → F a.block = 0 ∧ a.block < h'.size), l.length,
      ⟨0, F2, _, 1, [], [], ts, rfl, rfl, rfl, by simp, by simp, cr0, Rd.nil _ _, fun a ha => (by cases ha)⟩, ?_⟩
    rintro _ kept may _ _ m h4 ⟨k, F4, d4, inn, tx, tm, ts4, rfl, hm, rfl, htx, htm, cr, mrd, mb⟩
    refine IfB.dec (fun hlt => ?_) (fun hge => ?_)
    · have hk : k < l.length := by omega
      obtain ⟨a, ha, hc'⟩ := (w.rd.ext cr.ext).get (i := k) (by simpa using hk)
      refine ⟨a, ha, by omega, by omega, l[k], by simpa using hc', ?_⟩
      refine (Round_spec l[k] 3000 (by omega) (by omega) h4).mono ?_
      rintro _ h4' ⟨rfl, hh⟩
      obtain rfl := hh.symm
      have hm1 := Int.emod_nonneg l[k] (show (3000 : Int) ≠ 0 by omega)
      have hm2 := Int.emod_lt_of_pos l[k] (show (0 : Int) < 3000 by omega)
      refine ⟨_, rfl, ?_⟩
      generalize l[k] % 3000 = z at hm1 hm2
      refine (Block_spec z k (by omega) h4).mono ?_
      rintro _ h5 ⟨u, rfl, ou, lu, e5⟩
      have hul : (blockL z.toNat k).length = z.toNat := blockL_length _ _
      refine ⟨u, rfl, ?_⟩
      have hsb4 := cr.sl.row.lt
      have tb := tbOf cr.dev hsb4 ou
      have s5 := e5.size
      have ok4 : (slS 2 4 6 inn k).Ok := slS_ok (by omega) (by omega) (by omega) cr.inv.le1 (by omega)
      have hroom : (slS 2 4 6 inn k).room = 7600 := by simp [SlV.room]
      refine saveC (S := slS 2 4 6 inn k) (t := blockL z.toNat k) (cr.dev.ext e5) (cr.ext.trans e5) cr.good (cr.sl.eq s5 (e5.block _ hsb4) fun a ha => e5.block _ (cr.sl.tb a ha).2.1) cr.sb0 ok4 (show 2 < 4 by omega) (show 4 < 6 by omega) cr.size.symm rfl (by rw [cr.n]; show 6 ≤ 8; omega) ou.toRd tb (by omega) (by rw [hroom]; omega) cr.inv (fun F6 h6 ts6 d6 x6 nx6 g6 inv6 sl6 e06 s6 gF6 y6 => ?_) (fun F6 h6 ts6 d6 x6 nx6 crs sl6 e06 s6 gF6 y6 => ?_)
      · refine .no rfl (.no rfl ?_)
        have ur : Rd 1 h6 u ((blockL z.toNat k).map bv) := ou.toRd.eq fun a ha => y6 _ (tb a ha).2.1 (tb a ha).1 (tb a ha).2.2
        have ub : ∀ a, u.base = some a → F6 a.block = 0 ∧ a.block < h6.size ∧ a.block ≠ sb := fun a ha => ⟨by rw [gF6 _ (tb a ha).2.1]; exact (tb a ha).1, by have := (tb a ha).2.1; omega, (tb a ha).2.2⟩
        exact ⟨m - 1, by omega, k + 1, F6, d6, 1 - inn, _, _, ts6, by rw [iAdd64 (by omega)]; push_cast; rfl, by omega, by rw [iAdd64 (by omega)]; push_cast; rfl, by omega, by omega, ⟨x6, e06, nx6.n.trans cr.n, nx6.size.trans cr.size, sl6, cr.sb0, inv6, g6, ur, ub⟩, ur, fun a ha => ⟨(ub a ha).1, (ub a ha).2.1⟩⟩
      · refine .yes rfl ?_
        refine (Dead_spec sl6.row).mono ?_
        rintro _ h6' ⟨rfl, hh⟩
        obtain rfl := hh.symm
        refine ⟨_, rfl, .no rfl ?_⟩
        have kb5 : ∀ a, kept.base = some a → F4 a.block = 0 ∧ a.block < h5.size ∧ a.block ≠ sb := fun a ha => ⟨(cr.kb a ha).1, by have := (cr.kb a ha).2.1; omega, (cr.kb a ha).2.2⟩
        have kr : Rd 1 h6 kept (tx.map bv) := (cr.krd.ext e5).eq fun a ha => y6 _ (kb5 a ha).2.1 (kb5 a ha).1 (kb5 a ha).2.2
        have ur : Rd 1 h6 u ((blockL z.toNat k).map bv) := ou.toRd.eq fun a ha => y6 _ (tb a ha).2.1 (tb a ha).1 (tb a ha).2.2
        refine ⟨k, F6, d6, tx, _, rfl, ⟨x6, e06, nx6.n.trans cr.n, nx6.size.trans cr.size, kr, fun a ha => ⟨by rw [gF6 _ (kb5 a ha).2.1]; exact (kb5 a ha).1, by have := (kb5 a ha).2.1; omega⟩, ur, fun a ha => ⟨by rw [gF6 _ (tb a ha).2.1]; exact (tb a ha).1, by have := (tb a ha).2.1; omega⟩, htx, by omega, by omega, fun p t => ?_⟩⟩
        rcases crs p t with h | h
        · exact .inl ⟨_, h⟩
        · exact .inr ⟨hk, _, h⟩
    · have hk : k = l.length := by omega
      refine ⟨k, F4, d4, tx, tm, rfl, ⟨cr.dev, cr.ext, cr.n, cr.size, cr.krd, fun a ha => ⟨(cr.kb a ha).1, (cr.kb a ha).2.1⟩, mrd, mb, htx, htm, by omega, fun p t => .inl ⟨inn, ?_⟩⟩⟩
      exact cr.inv.same rfl (fun j _ _ => crash_keep cr.dev.1 p t (cr.good j)) (by omega) (by omega)
  rintro _ kept may _ h4 ⟨N, F4, d4, tx, tm, rfl, af⟩
  have hN := af.le
  refine ⟨fun may2 h' => h4 = h' ∧ (N < l.length → may2 = may), IfB.eq (fun hN => ⟨rfl, fun h => by omega⟩) (fun hN => ⟨rfl, fun _ => rfl⟩), ?_⟩
  rintro _ may2 _ ⟨rfl, hmay⟩
  refine Tg.crash af.dev af.ext af.n8 af.size wp wt fun h5 cb e5 mk => ?_
  -- which text is there
  obtain ⟨tz, c, want, tg0, htz, hwant⟩ : ∃ (tz : List UInt8) (c : Nat) (want : Sl), Tg h h5 cb tz c want ∧ tz.length ≤ 1000000 ∧ (c = N ∧ want = kept ∨ c = N + 1 ∧ want = may2) := by
    rcases af.cr picks torn with h | ⟨hlt, h⟩
    · exact ⟨tx, N, kept, mk kept tx N af.krd af.kb h, af.kl, .inl ⟨rfl, rfl⟩⟩
    · exact ⟨tm, N + 1, may, mk may tm (N + 1) af.mrd af.mb h, af.ml, .inr ⟨rfl, (hmay hlt).symm⟩⟩
  clear mk
  refine ⟨fun dv i m h' => ∃ (k db : Nat), dv = some ⟨db, 0, none⟩ ∧ i = k ∧ m + k = cuts.length ∧ Tg h h' db tz c want, cuts.length, ⟨0, cb, rfl, rfl, rfl, tg0⟩, ?_⟩
  rintro _ _ _ m h6 ⟨k, db6, rfl, rfl, hm, tg⟩
  have hc2 : c ≤ N + 1 := by omega
  refine IfB.dec (fun hlt => ?_) (fun hge => ?_)
  · have hk : k < cuts.length := by omega
    obtain ⟨F6, d6, inn, t6, g6⟩ := tg
    obtain ⟨a, ha, hc'⟩ := (wc.rd.ext t6.ext).get (i := k) (by simpa using hk)
    refine ⟨a, ha, by omega, by omega, cuts[k], by simpa using hc', ?_⟩
    refine (Round_spec cuts[k] 20 (by omega) (by omega) h6).mono ?_
    rintro _ h6' ⟨rfl, hh⟩
    obtain rfl := hh.symm
    have hm1 := Int.emod_nonneg cuts[k] (show (20 : Int) ≠ 0 by omega)
    have hm2 := Int.emod_lt_of_pos cuts[k] (show (0 : Int) < 20 by omega)
    refine ⟨_, rfl, ?_⟩
    refine (Cut_spec t6.dev (n := cuts[k] % 20) (by omega)).mono ?_
    rintro _ h7 ⟨rfl, x7, c7⟩
    refine ⟨rfl, ?_⟩
    have inv7 : SlInv (d6.cutAt (cuts[k] % 20)) 2 4 6 inn tz c := t6.inv.same rfl (fun _ _ _ => rfl) (by omega) (by omega)
    have e07 := c7.ext t6.ext fun b hb => t6.dev.F0 hb
    refine openAny x7 e07 g6 (f0 := 2) (f1 := 4) (f2 := 6) (by omega) (by omega) (by show 6 ≤ d6.n; rw [t6.n]; omega) inv7 fun F8 h8 d8 c8 e8' x8 nx8 r8 g8 e08 gF8 ch8 => ?_
    refine Tg.crash x8 e08 (nx8.n.trans t6.n) (nx8.size.trans t6.size) wp wt fun h9 cb9 e9 mk => ?_
    have wr8 : Rd 1 h8 want (tz.map bv) := (t6.wrd.eq fun a ha => c7.block _ (t6.wb a ha).2 (t6.wb a ha).1).eq fun a ha => ch8.block _ (by have := (t6.wb a ha).2; have := c7.size; omega) (t6.wb a ha).1
    refine ⟨m - 1, by omega, k + 1, cb9, rfl, by rw [iAdd64 (by omega)]; push_cast; rfl, by omega, mk want tz c wr8 (fun a ha => ?_) ⟨inn, ?_⟩⟩
    · have h1 := t6.wb a ha
      have h2 := c7.size
      have h3 := ch8.size
      exact ⟨by rw [gF8 _ (by omega)]; exact h1.1, by omega⟩
    · exact inv7.same nx8.size (fun j _ _ => by rw [crash_keep x8.1 picks torn (g8 j)]; exact r8 j) (by omega) (by omega)
  · refine tg.td.open (by omega) (by omega) (by omega) fun h7 sb7 pl7 => .no rfl (.no rfl ?_)
    refine pl7.load htz fun v h8 e8 rv rw8 pl8 => ?_
    refine ⟨fun h' => h8 = h', ?_, ?_⟩
    · have cmp : ∀ (y : Sl), want = y → HCalls Try.prog fn_scarpalike_Bytes #[.slice v.base v.len v.cap, .slice y.base y.len y.cap] h8 fun r20 vh24 => r20 = .bool true ∧ vh24 = h8 := by
        rintro _ rfl
        refine (Bytes_spec rv rw8 (by omega)).mono ?_
        rintro _ h8' ⟨rfl, hh⟩
        exact ⟨by simp, hh⟩
      have eN : iAdd .i64 (N : Int) (1 : Int) = ((N + 1 : Nat) : Int) := by rw [iAdd64 (by omega)]; push_cast; rfl
      rw [eN]
      rcases hwant with ⟨rfl, hw⟩ | ⟨rfl, hw⟩
      · refine .yes (by simp) ?_
        refine (cmp _ hw).mono ?_
        rintro _ _ ⟨rfl, rfl⟩
        exact ⟨_, rfl, .no rfl rfl⟩
      · refine .no (by simp; omega) (.yes rfl (.yes (by simp) ?_))
        refine (cmp _ hw).mono ?_
        rintro _ _ ⟨rfl, rfl⟩
        exact ⟨_, rfl, .no rfl rfl⟩
    · rintro _ _ rfl
      refine pl8.crash (by omega) (by omega) wp wt fun h9 cb9 e9 td9 => ?_
      refine td9.open (by omega) (by omega) (by omega) fun h10 sb10 pl10 => .no rfl (.no rfl ?_)
      intro h11
      refine ⟨_, rfl, ?_⟩
      intro h12
      obtain ⟨e12, s12, r12⟩ : Ext h10 h12 ∧ h12.size = h10.size + 1 ∧ RdC h12 (some (nw h10)) ([110, 101, 120, 116].map bv) := strFacts h10 [110, 101, 120, 116] ty_uint8
      have e010 := pl10.heap
      obtain ⟨F10, d10, inn, ts10, p10⟩ := pl10
      have hsb10 := p10.sl.row.lt
      have ok10 : (slS 2 4 6 inn c).Ok := slS_ok (by omega) (by omega) (by omega) p10.inv.le1 (by omega)
      have hroom : (slS 2 4 6 inn c).room = 7600 := by simp [SlV.room]
      refine saveL (S := slS 2 4 6 inn c) (t := [110, 101, 120, 116]) (tl := Sl.mk (some (nw h10)) 4 4) (p10.dev.ext e12) (p10.ext.trans e12) p10.live (p10.sl.eq e12.size (e12.block _ hsb10) fun a ha => e12.block _ (p10.sl.tb a ha).2.1) p10.sb0 ok10 p10.size.symm rfl (by rw [p10.n]; show 6 ≤ 8; omega) ⟨rfl, Nat.le_refl _, r12⟩ (fun a ha => ?_) (by simp) (by rw [hroom]; simp) p10.inv fun F13 h13 ts13 d13 x13 ok13 g13 inv13 ho13 sl13 e013 s13 gF13 y13 b13 => .no rfl ?_
      · cases ha; exact ⟨p10.dev.free (Nat.le_refl _), by show h10.size < _; omega, by show h10.size ≠ sb10; omega⟩
      refine (Load_spec sl13.row sl13.text (by simp)).mono ?_
      rintro _ h14 ⟨u, rfl, ou, lu, e14⟩
      refine ⟨u, _, rfl, [110, 101, 120, 116], ou.toRd.lenB, ou.rd, .yes (beq_iff_eq.2 rfl) (.yes ?_ (aw19 (e013.trans e14)))⟩
      show (((c + 1 : Nat) : Int) == iAdd .i64 (c : Int) (1 : Int)) = true
      rw [iAdd64 (by omega)]; simp

end Go.Proofs.Ytfelkonmhfejdaa
