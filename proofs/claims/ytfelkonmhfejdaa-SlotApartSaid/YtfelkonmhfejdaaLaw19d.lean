/-
  SlotApart (chapter 19).
-/
import Derived.Test.YtfelkonmhfejdaaLaw19c
namespace Go.Proofs.Ytfelkonmhfejdaa
set_option linter.unusedVariables false
set_option linter.unusedSimpArgs false

/-- one of two slots upon one device; so is the other's block. -/
structure Half (h0 h : Hp) (F : Nat → Nat) (db sb so : Nat) (d : Dv) (f0 f1 f2 inn : Nat) (tx : List UInt8) (count : Nat) (ts x : Sl) : Prop where
  sl : SlotAt F h sb db (slS f0 f1 f2 inn count) tx ts
  sb0 : h0.size ≤ sb
  ne : sb ≠ so
  tso : ∀ a, ts.base = some a → a.block ≠ so
  inv : SlInv d f0 f1 f2 inn tx count
  xr : Rd 1 h x (tx.map bv)
  xb : ∀ a, x.base = some a → F a.block = 0 ∧ a.block < h.size ∧ a.block ≠ sb ∧ a.block ≠ so
theorem Half.move {h0 h h' : Hp} {F F' : Nat → Nat} {db sb so : Nat} {d d' : Dv} {f0 f1 f2 inn count : Nat} {tx : List UInt8} {ts x : Sl} (p : Half h0 h F db sb so d f0 f1 f2 inn tx count ts x) (h01 : f0 ≤ f1) (h12 : f1 ≤ f2) (hs : h.size ≤ h'.size) (g : ∀ b, b < h.size → F' b = F b) (y : ∀ b, b < h.size → F b = 0 → b ≠ so → h'[b]? = h[b]?) (hz : d'.size = d.size) (hr : ∀ j, f0 ≤ j → j < f2 → (d'.z j).rows = (d.z j).rows) : Half h0 h' F' db sb so d' f0 f1 f2 inn tx count ts x := by
  have e1 := y _ p.sl.row.lt p.sl.role p.ne
  have s1 := p.sl.eq hs e1 fun a ha => y _ (p.sl.tb a ha).2.1 (p.sl.tb a ha).1 (p.tso a ha)
  exact ⟨⟨by rw [g _ p.sl.row.lt]; exact p.sl.role, s1.row, s1.text, fun a ha => ⟨by rw [g _ (p.sl.tb a ha).2.1]; exact (p.sl.tb a ha).1, (s1.tb a ha).2⟩⟩, p.sb0, p.ne, p.tso, p.inv.same hz hr h01 h12, p.xr.eq fun a ha => y _ (p.xb a ha).2.1 (p.xb a ha).1 (p.xb a ha).2.2.2, fun a ha => ⟨by rw [g _ (p.xb a ha).2.1]; exact (p.xb a ha).1, by have := (p.xb a ha).2.1; omega, (p.xb a ha).2.2⟩⟩
theorem Half.ext {h0 h h' : Hp} {F : Nat → Nat} {db sb so : Nat} {d : Dv} {f0 f1 f2 inn count : Nat} {tx : List UInt8} {ts x : Sl} (p : Half h0 h F db sb so d f0 f1 f2 inn tx count ts x) (h01 : f0 ≤ f1) (h12 : f1 ≤ f2) (e : Ext h h') : Half h0 h' F db sb so d f0 f1 f2 inn tx count ts x :=
  p.move h01 h12 e.size (fun _ _ => rfl) (fun b hb _ _ => e.block b hb) rfl fun _ _ _ => rfl
structure DevG (h0 h : Hp) (F : Nat → Nat) (db : Nat) (d : Dv) : Prop where
  dev : DevAt h0.size F h db d
  ext : Ext h0 h
  live : Live d
  n : d.n = 8
  size : d.size = 96
  good : AllGood d
theorem DevG.app {h0 h h' : Hp} {F : Nat → Nat} {db : Nat} {d : Dv} (p : DevG h0 h F db d) (e : Ext h h') : DevG h0 h' F db d := ⟨p.dev.ext e, p.ext.trans e, p.live, p.n, p.size, p.good⟩
theorem Half.save {h0 h h1 : Hp} {F : Nat → Nat} {db sb so : Nat} {d : Dv} {f0 f1 f2 inn count : Nat} {tx t : List UInt8} {ts x tl : Sl} (g : DevG h0 h F db d) (p : Half h0 h F db sb so d f0 f1 f2 inn tx count ts x) (hso : so < h.size) (e1 : Ext h h1) (o1 : Own h.size 1 h1 tl (t.map bv)) (h01 : f0 < f1) (h12 : f1 < f2) (h2 : f2 ≤ 8) (ht : t.length ≤ 1000000) (hc : count < 100000)
    (hfit : ¬ (slS f0 f1 f2 1 0).room < (t.length : Int))
    {K : Int → Hp → Prop} (hK : ∀ F' h' d' ts', DevG h0 h' F' db d' → Half h0 h' F' db sb so d' f0 f1 f2 (1 - inn) t (count + 1) ts' tl → h.size ≤ h'.size → (∀ b, b < h.size → F' b = F b) → (∀ b, b < h.size → F b = 0 → b ≠ sb → h'[b]? = h[b]?) → d'.size = d.size → (∀ j, (j < f0 ∨ f2 ≤ j) → (d'.z j).rows = (d.z j).rows) → K 0 h') :
    HCalls Try.prog fn_slot_Slots_Save #[sp sb, .slice tl.base tl.len tl.cap] h1 fun r vh => ∃ c : Int, r = .int .i64 c ∧ K c vh := by
  have hsb := p.sl.row.lt
  have ok : (slS f0 f1 f2 inn count).Ok := slS_ok h01 h12 h2 p.inv.le1 (by omega)
  have p1 := p.ext (by omega) (by omega) e1
  have g1 := g.app e1
  have tb := tbOf g.dev hsb o1
  have s1 := e1.size
  refine saveL g1.dev g1.ext g1.live p1.sl p1.sb0 ok g.size.symm rfl (by rw [g.n]; exact h2) o1.toRd tb ht hfit p1.inv fun F' h' ts' d' x' ok' g' inv' ho' sl' e' s' gF y' b' => ?_
  refine hK F' h' d' ts' ⟨x', e', ok'.live, ok'.n.trans g.n, ok'.size.trans g.size, g'⟩ ⟨sl', p.sb0, p.ne, fun a ha => ?_, inv', o1.toRd.eq fun a ha => y' _ (tb a ha).2.1 (tb a ha).1 (tb a ha).2.2, fun a ha => ⟨by rw [gF _ (tb a ha).2.1]; exact (tb a ha).1, by have := (tb a ha).2.1; omega, (tb a ha).2.2, by have := (o1.lt ha).1; omega⟩⟩ (by omega) (fun b hb => gF b (by omega)) (fun b hb hF hne => by rw [y' b (by omega) hF hne, e1.block b hb]) ok'.size ho'
  rcases b' a ha with h | h
  · exact p.tso a h
  · omega
theorem Half.nilx {h0 h : Hp} {F : Nat → Nat} {db sb so : Nat} {d : Dv} {f0 f1 f2 inn count : Nat} {ts : Sl} (sl : SlotAt F h sb db (slS f0 f1 f2 inn count) [] ts) (sb0 : h0.size ≤ sb) (ne : sb ≠ so) (tso : ∀ a, ts.base = some a → a.block ≠ so) (inv : SlInv d f0 f1 f2 inn [] count) : Half h0 h F db sb so d f0 f1 f2 inn [] count ts Sl.nil :=
  ⟨sl, sb0, ne, tso, inv, Rd.nil _ _, fun a ha => (by cases ha)⟩
theorem SlotApart_law {h : Hp} (s : Sl) (l : List Int) (w : InI .i64 h s l) (sp_ : Sl) (picks : List Int) (wp : InI .i64 h sp_ picks) :
    HCalls Try.prog fn_scarplaw19_SlotApart #[.slice s.base s.len s.cap, .slice sp_.base sp_.len sp_.cap] h (Yes h) := by
  apply scarplaw19_SlotApart_vc
  unfold vcscarplaw19_SlotApart
  have hl := w.len
  refine IfB.dec (fun _ => aw19 (.refl h)) (fun a1 => IfB.dec (fun _ => aw19 (.refl h)) (fun a2 => ?_))
  refine (dev19_spec h).mono ?_
  rintro _ h1 ⟨_, _, rfl, F, db, rfl, rfl, x, e1⟩
  refine ⟨_, _, rfl, .no rfl ?_⟩
  refine openL x e1 (new_live 8 96) (f0 := 0) (f1 := 2) (f2 := 4) (by omega) (by omega) (by rw [new8.1]; omega) (new_inv (by omega) (by omega)) fun F2 h2 sa tsa d2 x2 sm2 g2 sla e02 _ _ hsa htsa => ?_
  have inv2 := sm2.inv (new_inv (f0 := 5) (f1 := 6) (f2 := 7) (by omega) (by omega)) (by omega) (by omega)
  refine openL x2 e02 sm2.ok.live (f0 := 5) (f1 := 6) (f2 := 7) (by omega) (by omega) (by rw [sm2.ok.n, new8.1]; omega) inv2 fun F3 h3 sb tsb d3 x3 sm3 g3 slb e03 gF3 c3 hsb htsb => ?_
  refine .no rfl (.no rfl (.no rfl (.no rfl ?_)))
  have s01 := e1.size
  have hsa2 := sla.row.lt
  have s23 := c3.size
  have dg3 : DevG h h3 F3 db d3 := ⟨x3, e03, sm3.ok.live, sm3.ok.n.trans sm2.ok.n, sm3.ok.size.trans sm2.ok.size, g3⟩
  have ha3 : Half h h3 F3 db sa sb d3 0 2 4 1 [] 0 tsa Sl.nil := by
    refine (Half.nilx (so := sb) sla (by omega) (by omega) (fun a ha => by have := (sla.tb a ha).2.1; omega) (sm2.inv (new_inv (f0 := 0) (f1 := 2) (f2 := 4) (by omega) (by omega)) (by omega) (by omega))).move (by omega) (by omega) c3.size gF3 (fun b hb hF _ => c3.block b hb hF) sm3.ok.size fun j _ _ => sm3.rows j
  have hd2s : d2.size = 96 := sm2.ok.size
  rw [hd2s] at slb
  have hb3 : Half h h3 F3 db sb sa d3 5 6 7 1 [] 0 tsb Sl.nil :=
    Half.nilx slb (by omega) (by omega) (fun a ha => by have := htsb a ha; omega) (sm3.inv inv2 (by omega) (by omega))
  have hz : ∀ j, (d3.z j).rows = [] := fun j => by rw [sm3.rows, sm2.rows, Dv.new_z]
  refine ⟨fun x y n vm i m h' => ∃ (F : Nat → Nat) (d : Dv) (k ia ca ib cb : Nat) (ta tb : List UInt8) (tsa tsb : Sl), i = k ∧ m + k = l.length ∧ n = ca ∧ vm = cb ∧ ca ≤ k ∧ cb ≤ k ∧ ta.length ≤ 1000000 ∧ tb.length ≤ 1000000 ∧ DevG h h' F db d ∧ Half h h' F db sa sb d 0 2 4 ia ta ca tsa x ∧ Half h h' F db sb sa d 5 6 7 ib tb cb tsb y ∧ (d.z 4).rows = [] ∧ (d.z 7).rows = [], l.length,
    ⟨F3, d3, 0, 1, 0, 1, 0, [], [], tsa, tsb, rfl, rfl, rfl, rfl, Nat.le_refl _, Nat.le_refl _, by simp, by simp, dg3, ha3, hb3, hz 4, hz 7⟩, ?_⟩
  rintro _ xx yy _ _ _ m h4 ⟨F4, d4, k, ia, ca, ib, cb, ta, tb, tsa4, tsb4, rfl, hm, rfl, rfl, hca, hcb, hta, htb, g4, ha, hb, z4, z7⟩
  refine IfB.dec (fun hlt => ?_) (fun hge => ?_)
  · have hk : k < l.length := by omega
    obtain ⟨a, ha', hc'⟩ := (w.rd.ext g4.ext).get (i := k) (by simpa using hk)
    refine ⟨a, ha', by omega, by omega, l[k], by simpa using hc', ?_⟩
    refine (Round_spec l[k] 2000 (by omega) (by omega) h4).mono ?_
    rintro _ h4' ⟨rfl, hh⟩
    obtain rfl := hh.symm
    have hm1 := Int.emod_nonneg l[k] (show (2000 : Int) ≠ 0 by omega)
    have hm2 := Int.emod_lt_of_pos l[k] (show (0 : Int) < 2000 by omega)
    refine ⟨_, rfl, ?_⟩
    generalize l[k] % 2000 = z at hm1 hm2
    refine (Block_spec z k (by omega) h4).mono ?_
    rintro _ h5 ⟨u, rfl, ou, lu, e5⟩
    have hul : (blockL z.toNat k).length = z.toNat := blockL_length _ _
    have r1 : (slS 0 2 4 1 0).room = 7600 := rfl
    have r2 : (slS 5 6 7 1 0).room = 3760 := rfl
    refine ⟨u, rfl, by omega, IfB.eq (fun _ => ?_) (fun _ => ?_)⟩
    · refine ha.save g4 hb.sl.row.lt e5 ou (by omega) (by omega) (by omega) (by omega) (by omega) (by rw [r1]; omega) fun F6 h6 d6 ts6 g6 ha6 s6 gF6 y6 ds6 ho6 => .no rfl ?_
      exact ⟨m - 1, by omega, F6, d6, k + 1, _, ca + 1, _, cb, _, tb, ts6, tsb4, by rw [iAdd64 (by omega)]; push_cast; rfl, by omega, by rw [iAdd64 (by omega)]; push_cast; rfl, rfl, by omega, by omega, by omega, htb, g6, ha6, hb.move (by omega) (by omega) s6 gF6 y6 ds6 fun j h1 h2 => ho6 j (by omega), by rw [ho6 4 (by omega)]; exact z4, by rw [ho6 7 (by omega)]; exact z7⟩
    · refine hb.save g4 ha.sl.row.lt e5 ou (by omega) (by omega) (by omega) (by omega) (by omega) (by rw [r2]; omega) fun F6 h6 d6 ts6 g6 hb6 s6 gF6 y6 ds6 ho6 => .no rfl ?_
      exact ⟨m - 1, by omega, F6, d6, k + 1, ia, ca, _, cb + 1, ta, _, tsa4, ts6, by rw [iAdd64 (by omega)]; push_cast; rfl, by omega, rfl, by rw [iAdd64 (by omega)]; push_cast; rfl, by omega, by omega, hta, by omega, g6, ha.move (by omega) (by omega) s6 gF6 y6 ds6 fun j h1 h2 => ho6 j (by omega), hb6, by rw [ho6 4 (by omega)]; exact z4, by rw [ho6 7 (by omega)]; exact z7⟩
  · have ptr : ∀ (q : Nat), q < 8 → (d4.z q).rows = [] → ∀ {K : Int → Int → Hp → Prop}, K 0 0 h4 → HCalls Try.prog fn_zdev_Dev_Pointer #[dp db, .int .i64 (q : Int)] h4 fun r vh => ∃ c : Int, ∃ c1 : Int, r = .tuple #[.int .i64 c, .int .i64 c1] ∧ K c c1 vh := by
      intro q hq hz K hK
      refine (Pointer_spec g4.dev _).mono ?_
      rintro _ h4' ⟨hh, ⟨hno, _⟩ | ⟨k', hk', hkn, rfl⟩⟩
      · exact absurd ⟨by omega, by rw [g4.n]; omega⟩ hno
      obtain rfl := hh.symm
      obtain rfl : k' = q := by omega
      refine ⟨_, _, rfl, ?_⟩
      rw [hz]; exact hK
    refine ptr 4 (by omega) z4 (ptr 7 (by omega) z7 ?_)
    refine (Crash_spec g4.dev wp.len (wp.rd.ext g4.ext) wp.len (wp.rd.ext g4.ext)).mono ?_
    rintro _ h5 ⟨e5, F5, cdb, rfl, x5⟩
    obtain ⟨sm5, g5⟩ := crash_same g4.live g4.dev.1 g4.good picks picks
    refine ⟨_, rfl, .no rfl (.no rfl (.no rfl (.no rfl (.no rfl ?_))))⟩
    have e05 := g4.ext.trans e5
    have n5 := sm5.ok.n.trans g4.n
    have sz5 := sm5.ok.size.trans g4.size
    refine openL (x5.low g4.ext.size) e05 sm5.ok.live (f0 := 0) (f1 := 2) (f2 := 4) (by omega) (by omega) (by rw [n5]; omega) (sm5.inv ha.inv (by omega) (by omega)) fun F6 h6 sc tsc d6 x6 sm6 g6 slc e06 gF6 c6 hsc htsc => ?_
    have n6 := sm6.ok.n.trans n5
    refine openL x6 e06 sm6.ok.live (f0 := 5) (f1 := 6) (f2 := 7) (by omega) (by omega) (by rw [n6]; omega) (sm6.inv (sm5.inv hb.inv (by omega) (by omega)) (by omega) (by omega)) fun F7 h7 sd tsd d7 x7 sm7 g7 sld e07 gF7 c7 hsd htsd => ?_
    refine .no rfl (.no rfl (.no rfl (.no rfl ?_)))
    have slc7 := slc.chg c7
    refine (Load_spec slc7.row slc7.text (by omega)).mono ?_
    rintro _ h8 ⟨u, rfl, ou, lu, e8⟩
    refine ⟨u, _, rfl, ?_⟩
    have sld8 := sld.eq e8.size (e8.block _ sld.row.lt) fun a ha => e8.block _ (sld.tb a ha).2.1
    refine (Load_spec sld8.row sld8.text (by omega)).mono ?_
    rintro _ h9 ⟨v, rfl, ov, lv, e9⟩
    refine ⟨v, _, rfl, ?_⟩
    have s5 := e5.size
    have s6 := c6.size
    have s7 := c7.size
    -- what was put in, through all of this
    have thru : ∀ {q : Sl} {tt : List UInt8}, Rd 1 h4 q (tt.map bv) → (∀ a, q.base = some a → a.block < h4.size) → Rd 1 h9 q (tt.map bv) := fun {q tt} rq hq => by
      have z5 : ∀ b, b < h4.size → F5 b = 0 := fun b hb => x5.F0 hb
      have z6 : ∀ b, b < h4.size → F6 b = 0 := fun b hb => by rw [gF6 b (by omega)]; exact z5 b hb
      have r7 : Rd 1 h7 q (tt.map bv) := ((rq.ext e5).eq fun a ha => c6.block _ (by have := hq a ha; omega) (z5 _ (hq a ha))).eq fun a ha => c7.block _ (by have := hq a ha; omega) (z6 _ (hq a ha))
      exact (r7.ext e8).ext e9
    refine (Bytes_spec (ou.toRd.ext e9) (thru ha.xr fun a h' => (ha.xb a h').2.1) (by omega)).mono ?_
    rintro _ h9' ⟨rfl, hh⟩
    obtain rfl := hh.symm
    refine ⟨_, rfl, .yes (by simp) (.yes (by simp) ?_)⟩
    refine (Bytes_spec ov.toRd (thru hb.xr fun a h' => (hb.xb a h').2.1) (by omega)).mono ?_
    rintro _ h9' ⟨rfl, hh⟩
    obtain rfl := hh.symm
    exact ⟨_, rfl, .yes (by simp) (.yes (by simp) (aw19 ((e07.trans e8).trans e9)))⟩

end Go.Proofs.Ytfelkonmhfejdaa
