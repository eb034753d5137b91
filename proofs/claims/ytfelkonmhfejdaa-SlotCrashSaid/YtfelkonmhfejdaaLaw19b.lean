/-
  SlotPlays (chapter 19).
-/
import Derived.Test.YtfelkonmhfejdaaLaw19
namespace Go.Proofs.Ytfelkonmhfejdaa
set_option linter.unusedVariables false
set_option linter.unusedSimpArgs false

/-- a slots that plays: its device, what it should tell. -/
structure PlF (h0 h : Hp) (F : Nat → Nat) (db sb : Nat) (d : Dv) (f0 f1 f2 inn : Nat) (tx : List UInt8) (count : Nat) (ts want : Sl) : Prop where
  dev : DevAt h0.size F h db d
  ext : Ext h0 h
  live : Live d
  n : d.n = 8
  size : d.size = 96
  sl : SlotAt F h sb db (slS f0 f1 f2 inn count) tx ts
  sb0 : h0.size ≤ sb
  inv : SlInv d f0 f1 f2 inn tx count
  good : AllGood d
  wrd : Rd 1 h want (tx.map bv)
  wb : ∀ a, want.base = some a → F a.block = 0 ∧ a.block < h.size ∧ a.block ≠ sb
def Pl (h0 h : Hp) (db sb f0 f1 f2 : Nat) (tx : List UInt8) (count : Nat) (want : Sl) : Prop := ∃ F d inn ts, PlF h0 h F db sb d f0 f1 f2 inn tx count ts want
theorem Pl.ext {h0 h h' : Hp} {db sb f0 f1 f2 count : Nat} {tx : List UInt8} {want : Sl} (p : Pl h0 h db sb f0 f1 f2 tx count want) (e : Ext h h') : Pl h0 h' db sb f0 f1 f2 tx count want := by
  obtain ⟨F, d, inn, ts, p⟩ := p
  exact ⟨F, d, inn, ts, p.dev.ext e, p.ext.trans e, p.live, p.n, p.size, p.sl.eq e.size (e.block _ p.sl.row.lt) fun a ha => e.block _ (p.sl.tb a ha).2.1, p.sb0, p.inv, p.good, p.wrd.ext e, fun a ha => ⟨(p.wb a ha).1, by have := (p.wb a ha).2.1; have := e.size; omega, (p.wb a ha).2.2⟩⟩
theorem Pl.heap {h0 h : Hp} {db sb f0 f1 f2 count : Nat} {tx : List UInt8} {want : Sl} (p : Pl h0 h db sb f0 f1 f2 tx count want) : Ext h0 h := by
  obtain ⟨F, d, inn, ts, p⟩ := p; exact p.ext
theorem Pl.open {h0 h : Hp} {db sb f0 f1 f2 count : Nat} {tx : List UInt8} {want : Sl} (p : Pl h0 h db sb f0 f1 f2 tx count want) (h01 : f0 < f1) (h12 : f1 < f2) (h2 : f2 ≤ 8) {K : Option Addr → Int → Hp → Prop}
    (hK : ∀ h' sb', Pl h0 h' db sb' f0 f1 f2 tx count want → K (some ⟨sb', 0, none⟩) 0 h') :
    HCalls Try.prog fn_slot_Open #[dp db, .int .i64 (f0 : Int), .int .i64 (f1 : Int), .int .i64 (f2 : Int)] h fun r vh => ∃ c : Option Addr, ∃ c1 : Int, r = .tuple #[.pointer c, .int .i64 c1] ∧ K c c1 vh := by
  obtain ⟨F, d, inn, ts, p⟩ := p
  refine openL p.dev p.ext p.live h01 h12 (by rw [p.n]; omega) p.inv fun F' h' sb' ts' d' x' sm' g' sl' e0' gF c' hsb hts => ?_
  rw [p.size] at sl'
  refine hK h' sb' ⟨F', d', inn, ts', x', e0', sm'.ok.live, sm'.ok.n.trans p.n, sm'.ok.size.trans p.size, sl', by have := p.ext.size; omega, sm'.inv p.inv (by omega) (by omega), g', p.wrd.eq fun a ha => c'.block _ (p.wb a ha).2.1 (p.wb a ha).1, fun a ha => ⟨by rw [gF _ (p.wb a ha).2.1]; exact (p.wb a ha).1, by have := (p.wb a ha).2.1; have := c'.size; omega, by have := (p.wb a ha).2.1; omega⟩⟩
theorem Pl.load {h0 h : Hp} {db sb f0 f1 f2 count : Nat} {tx : List UInt8} {want : Sl} (p : Pl h0 h db sb f0 f1 f2 tx count want) (ht : tx.length ≤ 1000000) {K : Sl → Int → Hp → Prop}
    (hK : ∀ u h', Ext h h' → Rd 1 h' u (tx.map bv) → Rd 1 h' want (tx.map bv) → Pl h0 h' db sb f0 f1 f2 tx count want → K u count h') :
    HCalls Try.prog fn_slot_Slots_Load #[sp sb] h fun r vh => ∃ c : Sl, ∃ c1 : Int, r = .tuple #[.slice c.base c.len c.cap, .int .i64 c1] ∧ K c c1 vh := by
  have p0 := p
  obtain ⟨F, d, inn, ts, p⟩ := p
  refine (Load_spec p.sl.row p.sl.text ht).mono ?_
  rintro _ h1 ⟨u, rfl, ou, lu, e1⟩
  exact ⟨u, _, rfl, hK u h1 e1 ou.toRd (p.wrd.ext e1) (p0.ext e1)⟩
theorem Pl.save {h0 h h1 : Hp} {db sb f0 f1 f2 count : Nat} {tx t : List UInt8} {want tl : Sl} (p : Pl h0 h db sb f0 f1 f2 tx count want) (e1 : Ext h h1) (o1 : Own h.size 1 h1 tl (t.map bv)) (h01 : f0 < f1) (h12 : f1 < f2) (h2 : f2 ≤ 8) (ht : t.length ≤ 1000000) (hc : count < 100000)
    {K : Int → Hp → Prop} (hbig : (slS f0 f1 f2 1 0).room < (t.length : Int) → ∀ h', Pl h0 h' db sb f0 f1 f2 tx count want → K 7 h') (hfit : ¬ (slS f0 f1 f2 1 0).room < (t.length : Int) → ∀ h', Pl h0 h' db sb f0 f1 f2 t (count + 1) tl → K 0 h') :
    HCalls Try.prog fn_slot_Slots_Save #[sp sb, .slice tl.base tl.len tl.cap] h1 fun r vh => ∃ c : Int, r = .int .i64 c ∧ K c vh := by
  obtain ⟨F, d, inn, ts, p⟩ := p
  have hsb := p.sl.row.lt
  have ok : (slS f0 f1 f2 inn count).Ok := slS_ok h01 h12 h2 p.inv.le1 (by omega)
  have sl1 := p.sl.eq e1.size (e1.block _ hsb) fun a ha => e1.block _ (p.sl.tb a ha).2.1
  have tb := tbOf p.dev hsb o1
  have s1 := e1.size
  have want1 := p.wrd.ext e1
  have wb1 : ∀ a, want.base = some a → F a.block = 0 ∧ a.block < h1.size ∧ a.block ≠ sb := fun a ha => ⟨(p.wb a ha).1, by have := (p.wb a ha).2.1; omega, (p.wb a ha).2.2⟩
  by_cases hb : (slS f0 f1 f2 1 0).room < (t.length : Int)
  · refine saveBig (p.dev.ext e1) (p.ext.trans e1) sl1 p.sb0 ok (by rw [p.n]; exact h2) o1.toRd tb ht hb fun F' h' ts' x' sl' e' s' g' y' b' => ?_
    refine hbig hb h' ⟨F', d, inn, ts', x', e', p.live, p.n, p.size, sl', p.sb0, p.inv, p.good, want1.eq fun a ha => y' _ (wb1 a ha).2.1 (wb1 a ha).1 (wb1 a ha).2.2, fun a ha => ⟨by rw [g' _ (wb1 a ha).2.1]; exact (wb1 a ha).1, by have := (wb1 a ha).2.1; omega, (wb1 a ha).2.2⟩⟩
  · refine saveL (p.dev.ext e1) (p.ext.trans e1) p.live sl1 p.sb0 ok p.size.symm rfl (by rw [p.n]; exact h2) o1.toRd tb ht hb p.inv fun F' h' ts' d' x' ok' g' inv' ho' sl' e' s' gF y' b' => ?_
    exact hfit hb h' ⟨F', d', 1 - inn, ts', x', e', ok'.live, ok'.n.trans p.n, ok'.size.trans p.size, sl', p.sb0, inv', g', o1.toRd.eq fun a ha => y' _ (tb a ha).2.1 (tb a ha).1 (tb a ha).2.2, fun a ha => ⟨by rw [gF _ (tb a ha).2.1]; exact (tb a ha).1, by have := (tb a ha).2.1; omega, (tb a ha).2.2⟩⟩
theorem SlotPlays_law {h : Hp} (mid : Int) (_ : (Lit.int .i64 mid).wf = true) (high : Int) (_ : (Lit.int .i64 high).wf = true) (s : Sl) (l : List Int) (w : InI .i64 h s l) :
    HCalls Try.prog fn_scarplaw19_SlotPlays #[.int .i64 mid, .int .i64 high, .slice s.base s.len s.cap] h (Yes h) := by
  apply scarplaw19_SlotPlays_vc
  unfold vcscarplaw19_SlotPlays
  have hl := w.len
  refine IfB.dec (fun _ => aw19 (.refl h)) (fun h30 => IfB.dec (fun _ => aw19 (.refl h)) (fun a1 => IfB.dec (fun _ => aw19 (.refl h)) (fun a2 => IfB.dec (fun _ => aw19 (.refl h)) (fun a3 => ?_))))
  obtain ⟨M, rfl⟩ : ∃ M : Nat, mid = M := ⟨mid.toNat, by omega⟩
  obtain ⟨H, rfl⟩ : ∃ H : Nat, high = H := ⟨high.toNat, by omega⟩
  refine (dev19_spec h).mono ?_
  rintro _ h1 ⟨_, _, rfl, F, db, rfl, rfl, x, e1⟩
  refine ⟨_, _, rfl, .no rfl ?_⟩
  have inv0 := new_inv (f0 := 0) (f1 := M) (f2 := H) (by omega) (by omega)
  refine openL x e1 (new_live 8 96) (f0 := 0) (f1 := M) (f2 := H) (by omega) (by omega) (by rw [new8.1]; omega) inv0 fun F2 h2 sb ts d2 x2 sm2 g2 sl2 e02 _ _ hsb hts => ?_
  refine .no rfl (.no rfl ?_)
  have hroom : iMul .i64 (40 : Int) (iSub .i64 (iMul .i64 (if (iSub .i64 (H : Int) (M : Int)) < (M : Int) then (iSub .i64 (H : Int) (M : Int)) else (M : Int)) (96 : Int)) (2 : Int)) = (slS 0 M H 1 0).room := by
    have hr : (slS 0 M H 1 0).room = 40 * ((if (H : Int) - M < (M : Int) - (0 : Nat) then (H : Int) - M else (M : Int) - (0 : Nat)) * (96 : Nat) - 2) := rfl
    rw [hr]
    have k1 : iSub .i64 (H : Int) (M : Int) = (H : Int) - M := iSub64 (by omega)
    rw [k1]
    have : ((M : Int) - (0 : Nat)) = M := by omega
    rw [this]
    generalize hg : (if (H : Int) - M < (M : Int) then (H : Int) - M else (M : Int)) = g
    have hg0 : 1 ≤ g ∧ g ≤ 8 := by rw [← hg]; split <;> omega
    have q1 : iMul .i64 g (96 : Int) = g * 96 := iMul64 (by omega)
    have q2 : iSub .i64 (g * 96) (2 : Int) = g * 96 - 2 := iSub64 (by omega)
    rw [q1, q2, iMul64 (by omega)]
    rfl
  have hrb : 3760 ≤ (slS 0 M H 1 0).room ∧ (slS 0 M H 1 0).room ≤ 40 * (8 * 96) := by
    have hr : (slS 0 M H 1 0).room = 40 * ((if (H : Int) - M < (M : Int) - (0 : Nat) then (H : Int) - M else (M : Int) - (0 : Nat)) * (96 : Nat) - 2) := rfl
    rw [hr]
    split <;> omega
  rw [hroom]
  generalize hR : (slS 0 M H 1 0).room = room at hrb
  have hR' := hR
  refine (Room_spec sl2.row (slS_ok (by omega) (by omega) (by omega) (by omega) (by omega))).mono ?_
  rintro _ h2' ⟨rfl, hh⟩
  obtain rfl := hh.symm
  refine ⟨_, rfl, IfB.ne (fun hne => absurd (show (slS 0 M H 1 0).room = room from hR) hne) (fun _ => ?_)⟩
  have hs02 := e1.size
  have pl0 : Pl h h2 db sb 0 M H [] 0 Sl.nil := ⟨F2, d2, 1, ts, x2, e02, sm2.ok.live, sm2.ok.n, sm2.ok.size, sl2, by omega, sm2.inv inv0 (by omega) (by omega), g2, Rd.nil _ _, fun a ha => (by cases ha)⟩
  refine ⟨fun sv want n3 i m h' => ∃ (k sb : Nat) (tx : List UInt8) (cnt : Nat), sv = some ⟨sb, 0, none⟩ ∧ i = k ∧ m + k = l.length ∧ n3 = cnt ∧ cnt ≤ k ∧ tx.length ≤ 1000000 ∧ Pl h h' db sb 0 M H tx cnt want, l.length,
    ⟨0, sb, [], 0, rfl, rfl, rfl, rfl, Nat.le_refl _, by simp, pl0⟩, ?_⟩
  rintro _ _ want _ _ m h3 ⟨k, sb, tx, cnt, rfl, rfl, hm, rfl, hcnt, htx, pl⟩
  refine IfB.dec (fun hlt => ?_) (fun hge => ?_)
  · have hk : k < l.length := by omega
    have getL : ∀ {h' : Hp} {K : Int → Prop}, Ext h h' → K l[k] → ∃ a : Addr, s.base = some a ∧ 0 ≤ (k : Int) ∧ (k : Int) < (s.len : Int) ∧ ∃ c : Int, hcell h' (a.add ((k : Int).toNat * 1)) = some (.int .i64 c) ∧ K c := fun e' hK => by
      obtain ⟨a, ha, hc'⟩ := (w.rd.ext e').get (i := k) (by simpa using hk)
      exact ⟨a, ha, by omega, by omega, l[k], by simpa using hc', hK⟩
    refine getL pl.heap ?_
    refine (Round_spec l[k] 4000 (by omega) (by omega) h3).mono ?_
    rintro _ h3' ⟨rfl, hh⟩
    obtain rfl := hh.symm
    have hm1 := Int.emod_nonneg l[k] (show (4000 : Int) ≠ 0 by omega)
    have hm2 := Int.emod_lt_of_pos l[k] (show (0 : Int) < 4000 by omega)
    refine ⟨_, rfl, fun kk h' => h3 = h' ∧ 0 ≤ kk ∧ kk ≤ 100000, ⟨by omega, ?_⟩, ?_⟩
    · refine IfB.eq (fun _ => ?_) (fun _ => ⟨rfl, by omega, by omega⟩)
      refine getL pl.heap ?_
      refine (Round_spec l[k] 3 (by omega) (by omega) h3).mono ?_
      rintro _ h3' ⟨rfl, hh⟩
      obtain rfl := hh.symm
      have hm1 := Int.emod_nonneg l[k] (show (3 : Int) ≠ 0 by omega)
      have hm2 := Int.emod_lt_of_pos l[k] (show (0 : Int) < 3 by omega)
      refine ⟨_, rfl, rfl, ?_⟩
      rw [iAdd64 (by omega), iSub64 (by omega)]
      omega
    rintro _ kk h3' ⟨rfl, hk0, hk1⟩
    refine (Block_spec kk k (by omega) h3).mono ?_
    rintro _ h4 ⟨u, rfl, ou, lu, e4⟩
    have hul : (blockL kk.toNat k).length = kk.toNat := blockL_length _ _
    refine ⟨u, rfl, ?_⟩
    refine pl.save e4 ou (by omega) (by omega) (by omega) (by omega) (by omega) (fun hb h5 pl5 => ?_) (fun hb h5 pl5 => ?_)
    all_goals refine ⟨fun want1 n4 h' => ∃ (tx : List UInt8) (cnt : Nat), n4 = cnt ∧ cnt ≤ k + 1 ∧ tx.length ≤ 1000000 ∧ Pl h h' db sb 0 M H tx cnt want1, ?_, ?_⟩
    · rw [hR] at hb
      exact IfB.dec (fun _ => .no rfl ⟨tx, cnt, rfl, by omega, htx, pl5⟩) (fun hno => absurd (by omega) hno)
    rotate_left
    · rw [hR] at hb
      exact IfB.dec (fun hbig => absurd hbig (by omega)) (fun _ => .no rfl ⟨_, cnt + 1, by rw [iAdd64 (by omega)]; push_cast; rfl, by omega, by omega, pl5⟩)
    all_goals
      rintro _ want1 _ h6 ⟨tx6, cnt6, rfl, hc6, ht6, pl6⟩
      refine pl6.load ht6 fun v h7 e7 rv rw7 pl7 => ?_
      refine (Bytes_spec rv rw7 (by omega)).mono ?_
      rintro _ h7' ⟨rfl, hh⟩
      obtain rfl := hh.symm
      refine ⟨_, rfl, .no (by simp) (.no (by simp) ⟨by omega, IfB.eq (fun _ => ?_) (fun _ => ⟨m - 1, by omega, k + 1, sb, tx6, cnt6, rfl, by rw [iAdd64 (by omega)]; push_cast; rfl, by omega, rfl, hc6, ht6, pl7⟩)⟩)⟩
      refine pl7.open (by omega) (by omega) (by omega) fun h8 sb8 pl8 => ?_
      exact .no rfl (.no rfl ⟨m - 1, by omega, k + 1, sb8, tx6, cnt6, rfl, by rw [iAdd64 (by omega)]; push_cast; rfl, by omega, rfl, hc6, ht6, pl8⟩)
  · refine pl.load htx fun v h7 e7 rv rw7 pl7 => ?_
    refine (Bytes_spec rv rw7 (by omega)).mono ?_
    rintro _ h7' ⟨rfl, hh⟩
    obtain rfl := hh.symm
    exact ⟨_, rfl, .yes (by simp) (.yes (by simp) (aw19 pl7.heap))⟩

end Go.Proofs.Ytfelkonmhfejdaa
