/-
  SlotTurns (chapter 19).
-/
import Derived.Test.YtfelkonmhfejdaaLaw19b
namespace Go.Proofs.Ytfelkonmhfejdaa
set_option linter.unusedVariables false
set_option linter.unusedSimpArgs false

/-- a device alone, of which a slots would be opened. -/
structure TdF (h0 h : Hp) (F : Nat → Nat) (db : Nat) (d : Dv) (f0 f1 f2 inn : Nat) (tx : List UInt8) (count : Nat) (want : Sl) : Prop where
  dev : DevAt h0.size F h db d
  ext : Ext h0 h
  live : Live d
  n : d.n = 8
  size : d.size = 96
  inv : SlInv d f0 f1 f2 inn tx count
  wrd : Rd 1 h want (tx.map bv)
  wb : ∀ a, want.base = some a → F a.block = 0 ∧ a.block < h.size
def Td (h0 h : Hp) (db f0 f1 f2 : Nat) (tx : List UInt8) (count : Nat) (want : Sl) : Prop := ∃ F d inn, TdF h0 h F db d f0 f1 f2 inn tx count want
theorem Td.heap {h0 h : Hp} {db f0 f1 f2 count : Nat} {tx : List UInt8} {want : Sl} (p : Td h0 h db f0 f1 f2 tx count want) : Ext h0 h := by
  obtain ⟨F, d, inn, p⟩ := p; exact p.ext
theorem Td.open {h0 h : Hp} {db f0 f1 f2 count : Nat} {tx : List UInt8} {want : Sl} (p : Td h0 h db f0 f1 f2 tx count want) (h01 : f0 < f1) (h12 : f1 < f2) (h2 : f2 ≤ 8) {K : Option Addr → Int → Hp → Prop}
    (hK : ∀ h' sb', Pl h0 h' db sb' f0 f1 f2 tx count want → K (some ⟨sb', 0, none⟩) 0 h') :
    HCalls Try.prog fn_slot_Open #[dp db, .int .i64 (f0 : Int), .int .i64 (f1 : Int), .int .i64 (f2 : Int)] h fun r vh => ∃ c : Option Addr, ∃ c1 : Int, r = .tuple #[.pointer c, .int .i64 c1] ∧ K c c1 vh := by
  obtain ⟨F, d, inn, p⟩ := p
  refine openL p.dev p.ext p.live h01 h12 (by rw [p.n]; omega) p.inv fun F' h' sb' ts' d' x' sm' g' sl' e0' gF c' hsb hts => ?_
  rw [p.size] at sl'
  refine hK h' sb' ⟨F', d', inn, ts', x', e0', sm'.ok.live, sm'.ok.n.trans p.n, sm'.ok.size.trans p.size, sl', by have := p.ext.size; omega, sm'.inv p.inv (by omega) (by omega), g', p.wrd.eq fun a ha => c'.block _ (p.wb a ha).2 (p.wb a ha).1, fun a ha => ⟨by rw [gF _ (p.wb a ha).2]; exact (p.wb a ha).1, by have := (p.wb a ha).2; have := c'.size; omega, by have := (p.wb a ha).2; omega⟩⟩
theorem Pl.crash {h0 h : Hp} {db sb f0 f1 f2 count : Nat} {tx : List UInt8} {want : Sl} (p : Pl h0 h db sb f0 f1 f2 tx count want) (h01 : f0 ≤ f1) (h12 : f1 ≤ f2) {s t : Sl} {picks torn : List Int} (ws : InI .i64 h0 s picks) (wt : InI .i64 h0 t torn) {K : Option Addr → Hp → Prop}
    (hK : ∀ h' cb, Ext h h' → Td h0 h' cb f0 f1 f2 tx count want → K (some ⟨cb, 0, none⟩) h') :
    HCalls Try.prog fn_zdev_Dev_Crash #[dp db, .slice s.base s.len s.cap, .slice t.base t.len t.cap] h fun r vh => ∃ c : Option Addr, r = .pointer c ∧ K c vh := by
  obtain ⟨F, d, inn, ts, p⟩ := p
  refine (Crash_spec p.dev ws.len (ws.rd.ext p.ext) wt.len (wt.rd.ext p.ext)).mono ?_
  rintro _ h1 ⟨e1, F1, cb, rfl, x1⟩
  obtain ⟨sm, g⟩ := crash_same p.live p.dev.1 p.good picks torn
  refine ⟨_, rfl, hK h1 cb e1 ⟨F1, _, inn, x1.low p.ext.size, p.ext.trans e1, sm.ok.live, sm.ok.n.trans p.n, sm.ok.size.trans p.size, sm.inv p.inv h01 h12, p.wrd.ext e1, fun a ha => ⟨x1.F0 (p.wb a ha).2.1, by have := (p.wb a ha).2.1; have := e1.size; omega⟩⟩⟩
theorem SlotTurns_law {h : Hp} (n : Int) (_ : (Lit.int .i64 n).wf = true) (s : Sl) (l : List Int) (w : InI .i64 h s l) (sp_ : Sl) (picks : List Int) (wp : InI .i64 h sp_ picks) (st : Sl) (torn : List Int) (wt : InI .i64 h st torn) :
    HCalls Try.prog fn_scarplaw19_SlotTurns #[.int .i64 n, .slice s.base s.len s.cap, .slice sp_.base sp_.len sp_.cap, .slice st.base st.len st.cap] h (Yes h) := by
  apply scarplaw19_SlotTurns_vc
  unfold vcscarplaw19_SlotTurns
  have hl := w.len
  refine IfB.dec (fun _ => aw19 (.refl h)) (fun a1 => IfB.dec (fun _ => aw19 (.refl h)) (fun a2 => IfB.dec (fun _ => aw19 (.refl h)) (fun a3 => IfB.dec (fun _ => aw19 (.refl h)) (fun a4 => IfB.dec (fun _ => aw19 (.refl h)) (fun a5 => ?_)))))
  obtain ⟨N, rfl⟩ : ∃ N : Nat, n = N := ⟨n.toNat, by omega⟩
  refine (dev19_spec h).mono ?_
  rintro _ h1 ⟨_, _, rfl, F, db, rfl, rfl, x, e1⟩
  refine ⟨_, _, rfl, .no rfl ?_⟩
  have inv0 := new_inv (f0 := 1) (f1 := 2) (f2 := 3) (by omega) (by omega)
  refine ⟨fun dv want i m h' => ∃ (k db : Nat) (tx : List UInt8), dv = some ⟨db, 0, none⟩ ∧ i = k ∧ m + k = N ∧ tx.length ≤ 1000000 ∧ Td h h' db 1 2 3 tx k want, N,
    ⟨0, db, [], rfl, rfl, rfl, by simp, F, _, 1, x, e1, new_live 8 96, rfl, rfl, inv0, Rd.nil _ _, fun a ha => (by cases ha)⟩, ?_⟩
  rintro _ _ want _ m h2 ⟨k, db, tx, rfl, rfl, hm, htx, td⟩
  refine IfB.dec (fun hlt => ?_) (fun hge => ?_)
  · refine td.open (by omega) (by omega) (by omega) fun h3 sb pl => .no rfl (.no rfl ?_)
    refine pl.load htx fun v h4 e4 rv rw4 pl4 => .no (by simp) ?_
    refine (Bytes_spec rv rw4 (by omega)).mono ?_
    rintro _ h4' ⟨rfl, hh⟩
    obtain rfl := hh.symm
    refine ⟨_, rfl, .no (by simp) ?_⟩
    have hroom : (slS 1 2 3 1 0).room = 3760 := rfl
    -- one text more, and a crash
    have go : ∀ (z : Int), 0 ≤ z → z < 3500 → HCalls Try.prog fn_scarpalike_Block #[.int .i64 z, .int .i64 (k : Int)] h4 fun r10 vh11 =>
          ∃ c14 : Sl, r10 = .slice c14.base c14.len c14.cap ∧
          HCalls Try.prog fn_slot_Slots_Save #[sp sb, .slice c14.base c14.len c14.cap] vh11 fun r11 vh12 =>
          ∃ c15 : Int, r11 = .int .i64 c15 ∧
          IfB (c15 != (0 : Int)) (Yes h (.bool false) vh12)
          (HCalls Try.prog fn_zdev_Dev_Crash #[dp db, .slice sp_.base sp_.len sp_.cap, .slice st.base st.len st.cap] vh12 fun r12 vh13 =>
            ∃ c16 : Option Addr, r12 = .pointer c16 ∧
            ∃ n3, n3 < m ∧ ∃ (k' db : Nat) (tx : List UInt8), c16 = some ⟨db, 0, none⟩ ∧ iAdd .i64 (k : Int) (1 : Int) = k' ∧ n3 + k' = N ∧ tx.length ≤ 1000000 ∧ Td h vh13 db 1 2 3 tx k' c14) := by
      intro z hz0 hz1
      refine (Block_spec z k (by omega) h4).mono ?_
      rintro _ h5 ⟨u, rfl, ou, lu, e5⟩
      have hul : (blockL z.toNat k).length = z.toNat := blockL_length _ _
      refine ⟨u, rfl, ?_⟩
      refine pl4.save e5 ou (by omega) (by omega) (by omega) (by omega) (by omega) (fun hb => absurd hb (by rw [hroom]; omega)) (fun hb h6 pl6 => .no rfl ?_)
      refine pl6.crash (by omega) (by omega) wp wt fun h7 cb e7 td7 => ?_
      exact ⟨m - 1, by omega, k + 1, cb, _, rfl, by rw [iAdd64 (by omega)]; push_cast; rfl, by omega, by omega, td7⟩
    refine IfB.dec (fun hlt2 => ?_) (fun _ => go k (by omega) (by omega))
    have hk : k < l.length := by omega
    obtain ⟨a, ha, hc'⟩ := (w.rd.ext pl4.heap).get (i := k) (by simpa using hk)
    refine ⟨a, ha, by omega, by omega, l[k], by simpa using hc', ?_⟩
    refine (Round_spec l[k] 3000 (by omega) (by omega) h4).mono ?_
    rintro _ h4' ⟨rfl, hh⟩
    obtain rfl := hh.symm
    have hm1 := Int.emod_nonneg l[k] (show (3000 : Int) ≠ 0 by omega)
    have hm2 := Int.emod_lt_of_pos l[k] (show (0 : Int) < 3000 by omega)
    exact ⟨_, rfl, go _ (by omega) (by omega)⟩
  · obtain rfl : k = N := by omega
    refine td.open (by omega) (by omega) (by omega) fun h3 sb pl => .no rfl (.no rfl ?_)
    refine pl.load htx fun v h4 e4 rv rw4 pl4 => .yes (by simp) ?_
    refine (Bytes_spec rv rw4 (by omega)).mono ?_
    rintro _ h4' ⟨rfl, hh⟩
    obtain rfl := hh.symm
    exact ⟨_, rfl, .yes (by simp) (aw19 pl4.heap)⟩

end Go.Proofs.Ytfelkonmhfejdaa
