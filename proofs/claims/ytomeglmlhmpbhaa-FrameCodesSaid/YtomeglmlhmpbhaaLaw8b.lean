/-
  FrameTorn, FrameBack (chapter 8).
-/
import Derived.Test.YtomeglmlhmpbhaaLaw8
import Derived.Test.YtomeglmlhmpbhaaPlain8
import Derived.Test.YtomeglmlhmpbhaaBridge5
namespace Go.Proofs.Ytomeglmlhmpbhaa
set_option linter.unusedVariables false
set_option linter.unusedSimpArgs false

/-- whatever a reading answers. -/
theorem DecR.shape {h h' : Hp} {p : List UInt8} {r : Value} (d : DecR h p r h') : Ext h h' ∧ ∃ (k e s l : Int) (t : Sl) (c : Int), r = .tuple #[.agg #[.int .i64 k, .int .i64 e, .int .i64 s, .int .i64 l, .slice t.base t.len t.cap], .int .i64 c] ∧ (p.length ≠ 64 → c = 3) ∧ (p.length = 64 → ¬ goodP p → c = 13) ∧
    (p.length = 64 → goodP p → c = 0 ∧ k = (dK p : Int) ∧ e = (dE p : Int) ∧ s = (dS p : Int) ∧ l = (dL p : Int) ∧ Own h.size 1 h' t ((dB p).map bv)) := by
  obtain ⟨ex, ⟨hn, rfl⟩ | ⟨hn, hg, rfl⟩ | ⟨hn, hg, t, rfl, ot⟩⟩ := d
  · exact ⟨ex, 0, 0, 0, 0, Sl.nil, 3, rfl, fun _ => rfl, fun h => absurd h hn, fun h => absurd h hn⟩
  · exact ⟨ex, 0, 0, 0, 0, Sl.nil, 13, rfl, fun h => absurd hn h, fun _ _ => rfl, fun _ h => absurd h hg⟩
  · exact ⟨ex, _, _, _, _, t, 0, rfl, fun h => absurd hn h, fun _ h => absurd hg h, fun _ _ => ⟨rfl, rfl, rfl, rfl, rfl, ot⟩⟩

theorem FrameTorn_law {h : Hp} (a : Blk5) (bs : List UInt8) (w : InBlk h a bs) : HCalls Try.prog fn_scarplaw8_FrameTorn #[.agg #[.int .i64 a.k, .int .i64 a.e, .int .i64 a.s, .int .i64 a.l, .slice a.b.base a.b.len a.b.cap]] h (Yes h) := by
  apply scarplaw8_FrameTorn_vc
  unfold vcscarplaw8_FrameTorn
  intro h1
  have e1 : Ext h h1 := alc_ext _ _ _
  have r1 : Row h1 h.size (blkV a.k a.e a.s a.l a.b) := alc_row h _ _
  refine ⟨a.b, r1.get rfl, IfB.dec (fun _ => aw8 e1) (fun hle => r1.get5 ?_)⟩
  refine (made_spec a.k a.e a.s a.l a.b h1).mono ?_
  rintro _ h2 ⟨rfl, e2⟩
  refine ⟨_, _, _, _, a.b, rfl, ?_⟩
  have rb : Rd 1 h2 a.b (bs.map bv) := ⟨by simpa using w.b.len, w.b.cap, w.b.rd.ext (e1.trans e2)⟩
  refine (Encode_spec a.k a.e a.s a.l rb).mono ?_
  rintro _ h3 ⟨e3, hr⟩
  have e03 := (e1.trans e2).trans e3
  rcases hr with ⟨hn, rfl⟩ | ⟨ok, hl, rfl⟩ | ⟨ok, hl, u, rfl, ou, lu⟩
  · exact ⟨Sl.nil, _, rfl, .yes rfl (aw8 e03)⟩
  · exact ⟨Sl.nil, _, rfl, .yes rfl (aw8 e03)⟩
  refine ⟨u, _, rfl, .no rfl ?_⟩
  have hpre : (preL a.k.toNat a.e.toNat a.s.toNat a.l.toNat bs).length ≤ 60 := by rw [preL_length]; omega
  have hlen := encOf_length hpre
  have hok := encOf_sumOk hpre
  generalize encOf (preL a.k.toNat a.e.toNat a.s.toNat a.l.toNat bs) = q at *
  intro h5
  have e5 : Ext h3 h5 := alc_ext _ _ _
  have o0 : Own h3.size 1 h5 ⟨some (nw h3), 0, 0⟩ [] := Own.alc h3 [] ty_uint8 0 1 rfl
  refine AppC_own (news := q.map bv) rfl o0 e5.size (by simpa using ou.toRd.lenB) (ou.ext e5).rd (cellOk_bv q) (by simp; omega) (by simp; omega) fun s h6 o6 l6 k6 _ => ?_
  have hs : s.len = 64 := by rw [l6]; simp; omega
  have e06 : Ext h h6 := e03.trans ((e5.toKeep).trans k6).ext
  have torn32 : q.take 32 ++ ((q.drop 32).map (· ^^^ 85)).take 0 ++ q.drop 32 = q := by simp
  refine ⟨fun i m h' => ∃ j : Nat, i = ((32 + j : Nat) : Int) ∧ m + j = 32 ∧ Ext h h' ∧ h3.size ≤ h'.size ∧ Own h3.size 1 h' s ((q.take 32 ++ ((q.drop 32).map (· ^^^ 85)).take j ++ q.drop (32 + j)).map bv), 32, ⟨0, rfl, rfl, e06, by have := e5.size; have := k6.size; omega, by rw [Nat.add_zero, torn32]; simpa using o6⟩, ?_⟩
  rintro _ _ m h7 ⟨j, rfl, hm, e7, s7, o7⟩
  have hl7 := o7.toRd.lenB
  refine IfB.dec (fun hlt => ?_) (fun hge => ?_)
  · have hj : 32 + j < q.length := by omega
    refine ixB o7.rd hl7 (32 + j) rfl (by omega) ?_
    have hg : (q.take 32 ++ ((q.drop 32).map (· ^^^ 85)).take j ++ q.drop (32 + j))[32 + j]'(by omega) = q[32 + j] := by
      have hx : (q.take 32 ++ ((q.drop 32).map (· ^^^ 85)).take j).length = 32 + j := by simp; omega
      rw [List.getElem_append_right (by omega), List.getElem_drop]
      congr 1; omega
    rw [hg]
    obtain ⟨b, hb, _⟩ := o7.rd.get (i := 0) (by rw [List.length_map]; omega)
    obtain ⟨ok1, o8, k8, _, s8⟩ := o7.set hb (k := 32 + j) (by rw [List.length_map]; omega) (bv (q[32 + j] ^^^ 85))
    refine ⟨b, hb, by omega, hlt, ?_⟩
    have hv : Value.int .u8 (iXor .u8 (q[32 + j].toNat : Int) (85 : Int)) = bv (q[32 + j] ^^^ 85) := by
      have := xor_bv q[32 + j] 85
      exact congrArg (Value.int .u8) this
    rw [hv]
    simp only [Int.toNat_natCast, Nat.mul_one]
    refine ⟨ok1, m - 1, by omega, j + 1, by rw [iAdd64 (by omega)]; push_cast; omega, by omega, (e7.toKeep.trans (k8.le e03.size)).ext, by omega, ?_⟩
    have hset : (q.take 32 ++ ((q.drop 32).map (· ^^^ 85)).take j ++ q.drop (32 + j)).set (32 + j) (q[32 + j] ^^^ 85) = q.take 32 ++ ((q.drop 32).map (· ^^^ 85)).take (j + 1) ++ q.drop (32 + (j + 1)) := by
      have hx : (q.take 32 ++ ((q.drop 32).map (· ^^^ 85)).take j).length = 32 + j := by simp; omega
      rw [List.set_append_right _ _ (by omega), hx, Nat.sub_self, List.drop_eq_getElem_cons hj, List.set_cons_zero]
      rw [List.take_succ_eq_append_getElem (i := j) (by simp; omega)]
      simp only [List.getElem_map, List.getElem_drop, List.append_assoc, List.cons_append, List.nil_append]
      rfl
    rw [← hset, List.map_set]; exact o8
  · have hj : j = 32 := by omega
    subst hj
    have he : q.take 32 ++ ((q.drop 32).map (· ^^^ 85)).take 32 ++ q.drop (32 + 32) = tornL q := by
      unfold tornL
      have hnil : q.drop (32 + 32) = [] := List.drop_eq_nil_of_le (by omega)
      rw [List.take_of_length_le (l := (q.drop 32).map (· ^^^ 85)) (by simp; omega), hnil, List.append_nil]
    rw [he] at o7
    refine (Decode_spec o7.toRd).mono ?_
    rintro _ h9 d
    obtain ⟨e9, k, e, s', l, t, c, rfl, _, hc, _⟩ := d.shape
    have hc' := hc (by have := o7.toRd.lenB; omega) (torn_bad hlen hok)
    subst hc'
    refine ⟨k, e, s', l, t, _, rfl, ?_⟩
    intro h10
    refine put5 fun h11 e11 _ => .yes rfl (aw8 ((e7.trans e9).trans e11))

end Go.Proofs.Ytomeglmlhmpbhaa
