/-
  FrameCodes (chapter 8).
-/
import Derived.Test.YtomeglmlhmpbhaaLaw8d
import Derived.Test.YtomeglmlhmpbhaaFrame4
namespace Go.Proofs.Ytomeglmlhmpbhaa
set_option linter.unusedVariables false
set_option linter.unusedSimpArgs false

open Classical in
noncomputable def encE (k e s l : Int) (bs : List UInt8) : Int := if okB k e s l then (if bs.length ≤ 40 then 0 else 3) else 1
open Classical in
noncomputable def encL (k e s l : Int) (bs : List UInt8) : List UInt8 := if okB k e s l ∧ bs.length ≤ 40 then encOf (preL k.toNat e.toNat s.toNat l.toNat bs) else []
theorem EncR.out {h h' : Hp} {k e s l : Int} {bs : List UInt8} {r : Value} (x : EncR h k e s l bs r h') : Ext h h' ∧ ∃ t : Sl, r = .tuple #[.slice t.base t.len t.cap, .int .i64 (encE k e s l bs)] ∧ Rd 1 h' t ((encL k e s l bs).map bv) := by
  unfold encE encL
  obtain ⟨ex, ⟨hn, rfl⟩ | ⟨hn, hg, rfl⟩ | ⟨hn, hg, t, rfl, ot, lt⟩⟩ := x
  · exact ⟨ex, Sl.nil, by rw [if_neg hn]; rfl, by rw [if_neg (fun h => hn h.1)]; exact Rd.nil 1 h'⟩
  · exact ⟨ex, Sl.nil, by rw [if_pos hn, if_neg (by omega)]; rfl, by rw [if_neg (fun h => by omega)]; exact Rd.nil 1 h'⟩
  · exact ⟨ex, t, by rw [if_pos hn, if_pos hg], by rw [if_pos ⟨hn, hg⟩]; exact ot.toRd⟩
open Classical in
noncomputable def decE (p : List UInt8) : Int := if p.length = 64 then (if goodP p then 0 else 13) else 3
open Classical in
noncomputable def decV (p : List UInt8) : (Int × Int × Int × Int) × List UInt8 := if p.length = 64 ∧ goodP p then ((dK p, dE p, dS p, dL p), dB p) else ((0, 0, 0, 0), [])
theorem DecR.out {h h' : Hp} {p : List UInt8} {r : Value} (d : DecR h p r h') : Ext h h' ∧ ∃ t : Sl, r = .tuple #[.agg #[.int .i64 (decV p).1.1, .int .i64 (decV p).1.2.1, .int .i64 (decV p).1.2.2.1, .int .i64 (decV p).1.2.2.2, .slice t.base t.len t.cap], .int .i64 (decE p)] ∧ Rd 1 h' t ((decV p).2.map bv) := by
  unfold decE decV
  obtain ⟨ex, ⟨hn, rfl⟩ | ⟨hn, hg, rfl⟩ | ⟨hn, hg, t, rfl, ot⟩⟩ := d
  · exact ⟨ex, Sl.nil, by rw [if_neg hn, if_neg (fun h => hn h.1)]; rfl, by rw [if_neg (fun h => hn h.1)]; exact Rd.nil 1 h'⟩
  · exact ⟨ex, Sl.nil, by rw [if_pos hn, if_neg hg, if_neg (fun h => hg h.2)]; rfl, by rw [if_neg (fun h => hg h.2)]; exact Rd.nil 1 h'⟩
  · exact ⟨ex, t, by rw [if_pos hn, if_pos hg, if_pos ⟨hn, hg⟩], by rw [if_pos ⟨hn, hg⟩]; exact ot.toRd⟩
theorem decV_len (p : List UInt8) : (decV p).2.length ≤ 1000 := by
  unfold decV
  split
  · simp only [dB, List.length_take]; have := (dlt p).2.1; omega
  · simp
theorem encL_len (k e s l : Int) (bs : List UInt8) : (encL k e s l bs).length ≤ 64 := by
  unfold encL
  split
  · rename_i h; rw [encOf_length (by rw [preL_length]; omega)]; omega
  · simp

theorem FrameCodes_law {h : Hp} (a : Blk5) (bs : List UInt8) (w : InBlk h a bs) (p : Sl) (ps : List Int) (wp : InI .u8 h p ps) :
    HCalls Try.prog fn_scarplaw8_FrameCodes #[.agg #[.int .i64 a.k, .int .i64 a.e, .int .i64 a.s, .int .i64 a.l, .slice a.b.base a.b.len a.b.cap], .slice p.base p.len p.cap] h (Yes h) := by
  apply scarplaw8_FrameCodes_vc
  unfold vcscarplaw8_FrameCodes
  obtain ⟨l, wl⟩ := wp.bytes
  intro h1
  have e1 : Ext h h1 := alc_ext _ _ _
  have r1 : Row h1 h.size (blkV a.k a.e a.s a.l a.b) := alc_row h _ _
  have rb : Rd 1 h1 a.b (bs.map bv) := ⟨by simpa using w.b.len, w.b.cap, w.b.rd.ext e1⟩
  have rp : Rd 1 h1 p (l.map bv) := ⟨by simpa using wl.len, wl.cap, wl.rd.ext e1⟩
  have lp := rp.lenB
  refine ⟨a.b, r1.get rfl, IfB.dec (fun _ => aw8 e1) (fun _ => IfB.dec (fun _ => aw8 e1) (fun h300 => r1.get5 ?_))⟩
  refine (made_spec a.k a.e a.s a.l a.b h1).mono ?_
  rintro _ h2 ⟨rfl, e2⟩
  refine ⟨_, _, _, _, a.b, rfl, ?_⟩
  refine (Encode_spec a.k a.e a.s a.l (rb.ext e2)).mono ?_
  rintro _ h3 x3
  obtain ⟨e3, t3, rfl, d3⟩ := x3.out
  have e13 := e2.trans e3
  refine ⟨t3, _, rfl, (r1.ext e13).get5 ?_⟩
  refine (refEncode_spec a.k a.e a.s a.l (rb.ext e13)).mono ?_
  rintro _ h4 x4
  obtain ⟨e4, t4, rfl, d4⟩ := x4.out
  refine ⟨t4, _, rfl, ?_⟩
  have e14 := e13.trans e4
  refine (Decode_spec (rp.ext e14)).mono ?_
  rintro _ h5 x5
  obtain ⟨e5, t5, rfl, d5⟩ := x5.out
  refine ⟨_, _, _, _, t5, _, rfl, ?_⟩
  intro h6
  refine put5 fun h7 e7 r7 => ?_
  have e17 := (e14.trans e5).trans e7
  refine (refDecode_spec (rp.ext e17)).mono ?_
  rintro _ h8 x8
  obtain ⟨e8, t8, rfl, d8⟩ := x8.out
  refine ⟨_, _, _, _, t8, _, rfl, ?_⟩
  intro h9
  refine put5 fun h10 e10 r10 => ?_
  have e710 := e8.trans e10
  have e110 := e17.trans e710
  have rp10 := rp.ext e110
  refine ⟨fun pl i m h' => h10 = h' ∧ ∃ j : Nat, i = j ∧ m + j = l.length ∧ pl = (decide (l.length = 64) && !(l.take j).any fun c => (c.toNat : Int) != 0), l.length, ⟨rfl, 0, rfl, rfl, ?_⟩, ?_⟩
  · simp only [List.take_zero, List.any_nil, Bool.not_false, Bool.and_true]
    rw [lp]
    by_cases e : p.len = 64
    · simp [e]
    · rw [decide_eq_false e]; simp; omega
  rintro _ pl _ m _ ⟨rfl, j, rfl, hm, hpl⟩
  refine IfB.dec (fun hlt => ?_) (fun hge => ?_)
  · have hj : j < l.length := by omega
    have step : ∀ b : Bool, (pl = true → b = ((l[j].toNat : Int) == (0 : Int))) → (pl = false → b = false) → b = (decide (l.length = 64) && !(l.take (j + 1)).any fun c => (c.toNat : Int) != 0) := by
      intro b h1 h2
      rw [List.take_succ_eq_append_getElem hj, List.any_append, Bool.not_or, ← Bool.and_assoc, ← hpl]
      simp only [List.any_cons, List.any_nil, Bool.or_false]
      cases pl with
      | true => rw [h1 rfl]; simp [bne]
      | false => rw [h2 rfl]; rfl
    refine IfB.intro (fun hy => ixB rp10.rd lp j rfl hj ⟨m - 1, by omega, rfl, j + 1, by rw [iAdd64 (by omega)]; push_cast; rfl, by omega, step _ (fun _ => rfl) (fun h => by rw [hy] at h; cases h)⟩)
      (fun hn => ⟨m - 1, by omega, rfl, j + 1, by rw [iAdd64 (by omega)]; push_cast; rfl, by omega, step _ (fun h => by rw [hn] at h; cases h) (fun _ => rfl)⟩)
  · have hj : j = l.length := by omega
    subst hj
    rw [List.take_length] at hpl
    have hle := encL_len a.k a.e a.s a.l bs
    have e310 : Ext h3 h10 := e4.trans (e5.trans (e7.trans e710))
    refine (Bytes_spec (d3.ext e310) (d4.ext (e5.trans (e7.trans e710))) (by omega)).mono ?_
    rintro _ _ ⟨rfl, rfl⟩
    refine ⟨_, rfl, .yes (by simp) (.yes (by simp) ?_)⟩
    refine (r7.ext e710).get5 (r10.get5 ?_)
    have hd := decV_len l
    refine (same_spec (d5.ext (e7.trans e710)) (d8.ext e10) (by omega)).mono ?_
    rintro _ h11 ⟨rfl, e11⟩
    refine ⟨_, rfl, .yes (by simp) (.yes (by simp) ?_)⟩
    refine (Plain_spec (rp10.ext e11) (by omega)).mono ?_
    rintro _ _ ⟨rfl, rfl⟩
    exact ⟨_, rfl, .yes (by rw [hpl]; simp) (aw8 ((e1.trans e110).trans e11))⟩

end Go.Proofs.Ytomeglmlhmpbhaa
