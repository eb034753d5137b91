/-
  slot, as the laws use it: the power is on.
-/
import Derived.Test.YtfelkonmhfejdaaSlot6
import Derived.Test.YtfelkonmhfejdaaAlike
namespace Go.Proofs.Ytfelkonmhfejdaa
set_option linter.unusedVariables false
set_option linter.unusedSimpArgs false

theorem SameR.inv {d d' : Dv} {f0 f1 f2 inn count : Nat} {tx : List UInt8} (s : SameR d d') (v : SlInv d f0 f1 f2 inn tx count) (h01 : f0 ≤ f1) (h12 : f1 ≤ f2) : SlInv d' f0 f1 f2 inn tx count :=
  v.same s.ok.size (fun j _ _ => s.rows j) h01 h12
theorem openL {h0 h : Hp} {F : Nat → Nat} {db : Nat} {d : Dv} {f0 f1 f2 inn count : Nat} {tx : List UInt8} (x : DevAt h0.size F h db d) (e0 : Ext h0 h) (l : Live d) (h01 : f0 < f1) (h12 : f1 < f2) (h2n : f2 ≤ d.n) (v : SlInv d f0 f1 f2 inn tx count) {K : Option Addr → Int → Hp → Prop}
    (hK : ∀ F' h' sb ts d', DevAt h0.size F' h' db d' → SameR d d' → AllGood d' → SlotAt F' h' sb db ⟨f0, f1, f2, d.size, inn, count, false⟩ tx ts → Ext h0 h' → (∀ b, b < h.size → F' b = F b) → Chg F h h' → h.size ≤ sb → (∀ a, ts.base = some a → sb < a.block) → K (some ⟨sb, 0, none⟩) 0 h') :
    HCalls Try.prog fn_slot_Open #[dp db, .int .i64 (f0 : Int), .int .i64 (f1 : Int), .int .i64 (f2 : Int)] h fun r vh => ∃ c : Option Addr, ∃ c1 : Int, r = .tuple #[.pointer c, .int .i64 c1] ∧ K c c1 vh := by
  refine (Open_spec x _ _ _).mono ?_
  have hok : OpenOk d (f0 : Int) (f1 : Int) (f2 : Int) := ⟨by omega, by omega, by omega, by omega⟩
  unfold OpenR
  rw [Int.toNat_natCast f0, Int.toNat_natCast f1, Int.toNat_natCast f2]
  rintro _ h1 (⟨hno, _⟩ | ⟨_, q, ⟨i, hi, hodd⟩, _⟩ | ⟨_, q, F', x', g', c', _, _, hcase⟩)
  · exact absurd hok hno
  · exfalso
    rcases (show i = 0 ∨ i = 1 by omega) with rfl | rfl
    · rw [if_pos rfl, if_pos rfl, v.odd0] at hodd; cases hodd
    · rw [if_neg (by omega), if_neg (by omega), v.odd1] at hodd; cases hodd
  · have hfl : d.flush.1 = 0 := by rw [flush_live l]
    rcases hcase with ⟨hne, _⟩ | ⟨_, sb, ts, hsb, hts, rfl, sl⟩
    · exact absurd hfl hne
    rw [v.pick] at sl
    have lq : Live (withReads d q) := l
    have hfd : (withReads d q).flush.2 = (withReads d q).tick.flushed := by rw [flush_live lq]
    refine ⟨_, _, rfl, hK F' h1 sb ts _ x' ⟨⟨?_, x'.1, ?_, ?_⟩, fun j => ?_⟩ (fun j => ?_) sl (c'.ext e0 fun b hb => x.F0 hb) g' c' hsb hts⟩
    · rw [hfd]; exact ⟨lq.1, lq.dead⟩
    · rw [hfd]; rfl
    · rw [hfd]; rfl
    · rw [hfd, Dv.flushed_z]; rfl
    · rw [hfd, Dv.flushed_z]
theorem room_fits {S : SlV} (o : S.Ok) {t : List UInt8} (h : ¬ S.room < (t.length : Int)) (i : Nat) (hi : i < 2) : nCh t + 2 ≤ (S.f (i + 1) - S.f i) * S.size := by
  have h1 := o.f01
  have h2 := o.f12
  unfold SlV.room at h
  generalize hg : (if (S.f2 : Int) - S.f1 < (S.f1 : Int) - S.f0 then (S.f2 : Int) - S.f1 else (S.f1 : Int) - S.f0) = g at h
  have hgi : g ≤ ((S.f (i + 1) - S.f i : Nat) : Int) := by
    rcases (show i = 0 ∨ i = 1 by omega) with rfl | rfl
    · show g ≤ ((S.f1 - S.f0 : Nat) : Int); rw [← hg]; split <;> omega
    · show g ≤ ((S.f2 - S.f1 : Nat) : Int); rw [← hg]; split <;> omega
  have hm : g * (S.size : Int) ≤ ((S.f (i + 1) - S.f i : Nat) : Int) * (S.size : Int) := Int.mul_le_mul_of_nonneg_right hgi (by omega)
  have hc : (((S.f (i + 1) - S.f i) * S.size : Nat) : Int) = ((S.f (i + 1) - S.f i : Nat) : Int) * (S.size : Int) := Int.natCast_mul _ _
  unfold nCh
  omega
theorem saveBig {h0 h : Hp} {F : Nat → Nat} {sb db : Nat} {d : Dv} {S : SlV} {tx t : List UInt8} {ts tl : Sl} (x : DevAt h0.size F h db d) (e0 : Ext h0 h) (sl : SlotAt F h sb db S tx ts) (hsb : h0.size ≤ sb) (o : S.Ok) (hn : S.f2 ≤ d.n) (rt : Rd 1 h tl (t.map bv)) (tb : ∀ a, tl.base = some a → F a.block = 0 ∧ a.block < h.size ∧ a.block ≠ sb) (htl : t.length ≤ 1000000)
    (hbig : S.room < (t.length : Int)) {K : Int → Hp → Prop}
    (hK : ∀ F' h' ts', DevAt h0.size F' h' db d → SlotAt F' h' sb db S tx ts' → Ext h0 h' → h.size ≤ h'.size → (∀ b, b < h.size → F' b = F b) → (∀ b, b < h.size → F b = 0 → b ≠ sb → h'[b]? = h[b]?) → (∀ a, ts'.base = some a → ts.base = some a ∨ h.size ≤ a.block) → K 7 h') :
    HCalls Try.prog fn_slot_Slots_Save #[sp sb, .slice tl.base tl.len tl.cap] h fun r vh => ∃ c : Int, r = .int .i64 c ∧ K c vh := by
  refine (Save_spec x e0.size sl o hn rt tb htl).mono ?_
  have hv : saveV d S tx t = (7, d, S, tx) := by unfold saveV; rw [if_pos hbig]
  rw [hv]
  rintro _ h1 ⟨rfl, F', ts', x', sl', s', g', y', b'⟩
  exact ⟨_, rfl, hK F' h1 ts' x' sl' ⟨by have := e0.size; omega, fun b hb => by rw [y' b (by have := e0.size; omega) (x.F0 hb) (by omega), e0.block b hb]⟩ s' g' y' b'⟩
theorem saveL {h0 h : Hp} {F : Nat → Nat} {sb db : Nat} {d : Dv} {S : SlV} {tx t : List UInt8} {ts tl : Sl} (x : DevAt h0.size F h db d) (e0 : Ext h0 h) (l : Live d) (sl : SlotAt F h sb db S tx ts) (hsb : h0.size ≤ sb) (o : S.Ok) (hsz : S.size = d.size) (hon : S.off = false) (hn : S.f2 ≤ d.n) (rt : Rd 1 h tl (t.map bv)) (tb : ∀ a, tl.base = some a → F a.block = 0 ∧ a.block < h.size ∧ a.block ≠ sb) (htl : t.length ≤ 1000000)
    (hfit : ¬ S.room < (t.length : Int)) (v : SlInv d S.f0 S.f1 S.f2 S.inn tx S.count) {K : Int → Hp → Prop}
    (hK : ∀ F' h' ts' d', DevAt h0.size F' h' db d' → OkD d d' → AllGood d' → SlInv d' S.f0 S.f1 S.f2 (1 - S.inn) t (S.count + 1) → (∀ j, (j < S.f0 ∨ S.f2 ≤ j) → (d'.z j).rows = (d.z j).rows) → SlotAt F' h' sb db { S with inn := 1 - S.inn, count := S.count + 1 } t ts' → Ext h0 h' → h.size ≤ h'.size → (∀ b, b < h.size → F' b = F b) → (∀ b, b < h.size → F b = 0 → b ≠ sb → h'[b]? = h[b]?) → (∀ a, ts'.base = some a → ts.base = some a ∨ h.size ≤ a.block) → K 0 h') :
    HCalls Try.prog fn_slot_Slots_Save #[sp sb, .slice tl.base tl.len tl.cap] h fun r vh => ∃ c : Int, r = .int .i64 c ∧ K c vh := by
  refine (Save_spec x e0.size sl o hn rt tb htl).mono ?_
  have hin := o.inn
  have hct := o.count
  have hf := o.f (1 - S.inn) (by omega)
  have hf2 := o.f2' (1 - S.inn + 1) (by omega)
  obtain ⟨w1, w2, w3, w4, w5⟩ := wr_live l x.1 (lo := S.f (1 - S.inn)) (hi := S.f (1 - S.inn + 1)) (n := S.count + 1) (t := t) hf (by omega) (by rw [← hsz]; exact room_fits o hfit _ (by omega))
  rw [← hsz] at w1 w2 w3 w4 w5
  have hv : saveV d S tx t = (0, (d.wr (S.f (1 - S.inn)) (S.f (1 - S.inn + 1)) S.size (S.count + 1) t).2, { S with inn := 1 - S.inn, count := S.count + 1 }, t) := by
    unfold saveV; rw [if_neg hfit, if_neg (by rw [hon]; simp), if_neg (by omega)]
  rw [hv]
  generalize (d.wr (S.f (1 - S.inn)) (S.f (1 - S.inn + 1)) S.size (S.count + 1) t).2 = d' at *
  rintro _ h1 ⟨rfl, F', ts', x', sl', s', g', y', b'⟩
  have h01 := o.f01
  have h12 := o.f12
  have hlo : S.f (1 - S.inn) = (if S.inn = 0 then S.f1 else S.f0) := by
    rcases (show S.inn = 0 ∨ S.inn = 1 by omega) with e | e
    · rw [e, if_pos rfl]; rfl
    · rw [e, if_neg (by omega)]; rfl
  have hhi : S.f (1 - S.inn + 1) = (if S.inn = 0 then S.f2 else S.f1) := by
    rcases (show S.inn = 0 ∨ S.inn = 1 by omega) with e | e
    · rw [e, if_pos rfl]; rfl
    · rw [e, if_neg (by omega)]; rfl
  rw [hlo, hhi] at w3 w4
  refine ⟨_, rfl, hK F' h1 ts' d' x' w2 w5 (v.wrote h01 h12 w2.size (by omega) htl ?_ fun j h1 h2 h3 => w4 j (by omega)) (fun j hj => w4 j ?_) sl' ⟨by have := e0.size; omega, fun b hb => by rw [y' b (by have := e0.size; omega) (x.F0 hb) (by omega), e0.block b hb]⟩ s' g' y' b'⟩
  · rcases (show S.inn = 0 ∨ S.inn = 1 by omega) with e | e
    · rw [e] at w3 ⊢; exact w3
    · rw [e] at w3 ⊢; exact w3
  · rcases (show S.inn = 0 ∨ S.inn = 1 by omega) with e | e
    · rw [if_pos e, if_pos e]; omega
    · rw [if_neg (by omega), if_neg (by omega)]; omega
theorem dev19_spec (h : Hp) : HCalls Try.prog fn_scarplaw19_dev #[] h fun r vh => ∃ c : Option Addr, ∃ c1 : Bool, r = .tuple #[.pointer c, .bool c1] ∧ ∃ F b, c = some ⟨b, 0, none⟩ ∧ c1 = true ∧ DevAt h.size F vh b (Dv.new 8 96) ∧ Ext h vh := by
  apply scarplaw19_dev_vc
  unfold vcscarplaw19_dev
  refine (New_spec 8 96 h).mono ?_
  rintro _ h1 ⟨e1, ⟨hno, _⟩ | ⟨_, F, b, rfl, x⟩⟩
  · exact absurd ⟨by omega, by omega⟩ hno
  · exact ⟨_, _, rfl, .yes rfl ⟨_, _, rfl, F, b, rfl, rfl, x, e1⟩⟩

end Go.Proofs.Ytfelkonmhfejdaa
