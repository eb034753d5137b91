/-
  slot (chapter 19): what stands in a slot, in plain terms; tail and read.
-/
import Derived.Test.YtfelkonmhfejdaaZr
namespace Go.Proofs.Ytfelkonmhfejdaa
set_option linter.unusedVariables false
set_option linter.unusedSimpArgs false

def tailL (t : List UInt8) : List UInt8 := leB 4 t.length ++ leB 4 (crcN t)
open Classical in
noncomputable def readGo : List (List UInt8) → Nat → List UInt8 → Nat → List UInt8 × Nat
  | [], _, _, _ => ([], 0)
  | p :: r, i, t, n =>
    if ¬ goodB p then ([], 0) else
    if i = 0 ∧ dK p = 3 then readGo r (i + 1) t (dS p) else
    if i = 0 ∨ dS p ≠ n then ([], 0) else
    if dK p = 1 then readGo r (i + 1) (t ++ dB p) n else
    if dK p = 2 ∧ dL p + 1 = i ∧ dB p = tailL t then (t, n) else ([], 0)
noncomputable def readS (l : List (List UInt8)) : List UInt8 × Nat := readGo l 0 [] 0

theorem tail_spec {h : Hp} {s : Sl} {l : List UInt8} (r : Rd 1 h s (l.map bv)) (hm : l.length < 2 ^ 32) : HCalls Try.prog fn_slot_tail #[.slice s.base s.len s.cap] h (NewB h (tailL l)) := by
  apply slot_tail_vc
  unfold vcslot_tail
  have ll := r.lenB
  have e1 : iConv .u32 (s.len : Int) = ((l.length : Nat) : Int) := by
    rw [← ll, iConv_nat (by rfl), Nat.mod_eq_of_lt (by simpa [IntKind.bits] using hm)]
  rw [e1]
  refine (Put32_spec _ hm h).mono ?_
  rintro _ h1 ⟨u, rfl, ou, lu, e1⟩
  refine ⟨u, rfl, ?_⟩
  refine (crcOf_spec ll (r.ext e1).rd (by omega)).mono ?_
  rintro _ h2 ⟨rfl, e2⟩
  refine ⟨_, rfl, ?_⟩
  refine (Put32_spec _ (crcN_lt l) h2).mono ?_
  rintro _ h3 ⟨v, rfl, ov, lv, e3⟩
  refine ⟨v, rfl, ?_⟩
  intro h4
  have e4 : Ext h3 h4 := alc_ext _ _ _
  refine (slConcat_spec (s := Sl.mk (some (nw h3)) 2 2) (rows := [(u, leB 4 l.length), (v, leB 4 (crcN l))]) rfl (RdC.alc h3 _ _) ?_ (by show 2 ≤ 1000000; omega) ?_).mono ?_
  · intro p hp
    simp only [List.mem_cons, List.not_mem_nil, or_false] at hp
    rcases hp with rfl | rfl
    · exact ou.toRd.ext ((e2.trans e3).trans e4)
    · exact ov.toRd.ext e4
  · simp [catS, leB_length]
  rintro _ h5 ⟨w, rfl, ow, lw, e5⟩
  have hs : h.size ≤ h4.size := (((e1.trans e2).trans e3).trans e4).size
  have hc : catS [(u, leB 4 l.length), (v, leB 4 (crcN l))] = tailL l := by simp [catS, tailL]
  rw [hc] at ow lw
  exact ⟨w, rfl, w, rfl, ow.weak hs, lw, (((e1.trans e2).trans e3).trans e4).trans e5⟩

theorem read_spec {h : Hp} {s : Sl} {rows : List (Sl × List UInt8)} (hr : RdC h s.base (rows.map fun p => slV p.1)) (hl : s.len = rows.length) (each : ∀ p ∈ rows, Rd 1 h p.1 (p.2.map bv)) (hmax : rows.length ≤ 1000000) :
    HCalls Try.prog fn_slot_read #[.slice s.base s.len s.cap] h fun r h' => Ext h h' ∧ ∃ t : Sl, r = .tuple #[.slice t.base t.len t.cap, .int .i64 ((readS (rows.map (·.2))).2 : Int)] ∧ Own h.size 1 h' t ((readS (rows.map (·.2))).1.map bv) := by
  apply slot_read_vc
  unfold vcslot_read
  generalize hV : readS (rows.map (·.2)) = V
  have none : ∀ {h' : Hp}, Ext h h' → V = ([], 0) → Ext h h' ∧ ∃ t : Sl, Value.tuple #[.slice Sl.nil.base Sl.nil.len Sl.nil.cap, .int .i64 (0 : Int)] = .tuple #[.slice t.base t.len t.cap, .int .i64 (V.2 : Int)] ∧ Own h.size 1 h' t (V.1.map bv) := by
    intro h' e hv
    subst hv
    exact ⟨e, Sl.nil, rfl, Own.nil _ _ _⟩
  refine ⟨fun text n i m h' => ∃ (k nn : Nat) (tx : List UInt8), i = k ∧ n = nn ∧ m + k = rows.length ∧ Ext h h' ∧ Own h.size 1 h' text (tx.map bv) ∧ tx.length ≤ k * 64 ∧ readGo ((rows.map (·.2)).drop k) k tx nn = V, rows.length,
    ⟨0, 0, [], rfl, rfl, rfl, .refl h, Own.nil _ _ _, by simp, hV⟩, ?_⟩
  rintro _ text _ _ m h1 ⟨k, nn, tx, rfl, rfl, hm, e1, ot, htl, hgo⟩
  have s1 := e1.size
  refine IfB.dec (fun hlt => ?_) (fun hge => ?_)
  · have hk : k < rows.length := by omega
    have hmem : rows[k] ∈ rows := List.getElem_mem hk
    have hkm : k < (rows.map (·.2)).length := by simpa using hk
    refine ixS (hr.ext e1) hl k rfl hk ?_
    refine (Decode_spec ((each _ hmem).ext e1)).mono ?_
    rw [List.drop_eq_getElem_cons hkm, List.getElem_map, readGo] at hgo
    generalize hp : rows[k].2 = p at *
    rintro v2 h2 d2
    obtain ⟨e2, kk, e, sq, lba, t, c, rfl, dn, db, dg⟩ := d2.shape
    refine ⟨_, _, _, _, t, c, rfl, ?_⟩
    intro h3
    refine put5 fun h4 e4 r4 => ?_
    have e24 := e2.trans e4
    have e04 := e1.trans e24
    have s24 := e24.size
    refine IfB.ne (fun hne => none e04 ?_) (fun h0 => ?_)
    · rw [← hgo, if_pos]
      intro hg
      exact hne (dg hg.1 hg.2).1
    have hg : goodB p := by
      by_cases h64 : p.length = 64
      · by_cases hg : goodP p
        · exact ⟨h64, hg⟩
        · have := db h64 hg; omega
      · have := dn h64; omega
    obtain ⟨_, rfl, rfl, rfl, rfl, od⟩ := dg hg.1 hg.2
    rw [if_neg (fun hn => hn hg)] at hgo
    have hdb : (dB p).length ≤ 64 := by
      have : (dB p).length ≤ p.length := by unfold dB; simp [List.length_take, List.length_drop]; omega
      have := hg.1; omega
    have ek : iAdd .i64 (k : Int) (1 : Int) = ((k + 1 : Nat) : Int) := by rw [iAdd64 (by omega)]; push_cast; rfl
    have od4 := od.ext e4
    have lod := od4.toRd.lenB
    have lot := ot.toRd.lenB
    rw [ek]
    -- what comes behind the first
    have rest : ¬ (k = 0 ∧ dK p = 3) → k ≠ 0 → ∃ c17 : Int, hcell h4 ((nw h2).add 2) = some (.int .i64 c17) ∧
          IfB (c17 != (nn : Int)) (Ext h h4 ∧ ∃ t : Sl, Value.tuple #[.slice Sl.nil.base Sl.nil.len Sl.nil.cap, .int .i64 (0 : Int)] = .tuple #[.slice t.base t.len t.cap, .int .i64 (V.2 : Int)] ∧ Own h.size 1 h4 t (V.1.map bv))
          (∃ c18 : Int, hcell h4 (nw h2) = some (.int .i64 c18) ∧
            IfB (c18 == (1 : Int)) (∃ c19 : Sl, hcell h4 ((nw h2).add 4) = some (.slice c19.base c19.len c19.cap) ∧
              AppC ty_uint8 1 1 #[.int .u8 (0 : Int)] text c19 h4 fun s1 vh7 =>
              ∃ n2, n2 < m ∧ ∃ (k' nn' : Nat) (tx : List UInt8), ((k + 1 : Nat) : Int) = k' ∧ (nn : Int) = nn' ∧ n2 + k' = rows.length ∧ Ext h vh7 ∧ Own h.size 1 vh7 s1 (tx.map bv) ∧ tx.length ≤ k' * 64 ∧ readGo ((rows.map (·.2)).drop k') k' tx nn' = V)
            (∃ c20 : Int, hcell h4 (nw h2) = some (.int .i64 c20) ∧
              IfB (c20 == (2 : Int)) (∃ c21 : Int, hcell h4 ((nw h2).add 3) = some (.int .i64 c21) ∧
                IfB (c21 == (iSub .i64 (k : Int) (1 : Int))) (∃ c22 : Sl, hcell h4 ((nw h2).add 4) = some (.slice c22.base c22.len c22.cap) ∧
                  HCalls Try.prog fn_slot_tail #[.slice text.base text.len text.cap] h4 fun r3 vh8 =>
                  ∃ c23 : Sl, r3 = .slice c23.base c23.len c23.cap ∧
                  Ext h4 vh8 ∧
                  HCalls Try.prog fn_slices_Equal_sbytebyte #[.slice c22.base c22.len c22.cap, .slice c23.base c23.len c23.cap] vh8 fun r4 vh9 =>
                  ∃ c24 : Bool, r4 = .bool c24 ∧
                  Ext h4 vh9 ∧
                  IfB c24 (Ext h vh9 ∧ ∃ t : Sl, Value.tuple #[.slice text.base text.len text.cap, .int .i64 (nn : Int)] = .tuple #[.slice t.base t.len t.cap, .int .i64 (V.2 : Int)] ∧ Own h.size 1 vh9 t (V.1.map bv))
                  (Ext h vh9 ∧ ∃ t : Sl, Value.tuple #[.slice Sl.nil.base Sl.nil.len Sl.nil.cap, .int .i64 (0 : Int)] = .tuple #[.slice t.base t.len t.cap, .int .i64 (V.2 : Int)] ∧ Own h.size 1 vh9 t (V.1.map bv)))
                (Ext h h4 ∧ ∃ t : Sl, Value.tuple #[.slice Sl.nil.base Sl.nil.len Sl.nil.cap, .int .i64 (0 : Int)] = .tuple #[.slice t.base t.len t.cap, .int .i64 (V.2 : Int)] ∧ Own h.size 1 h4 t (V.1.map bv)))
              (Ext h h4 ∧ ∃ t : Sl, Value.tuple #[.slice Sl.nil.base Sl.nil.len Sl.nil.cap, .int .i64 (0 : Int)] = .tuple #[.slice t.base t.len t.cap, .int .i64 (V.2 : Int)] ∧ Own h.size 1 h4 t (V.1.map bv)))) := by
      intro hn3 hk0
      rw [if_neg hn3] at hgo
      refine ⟨_, r4.get rfl, IfB.ne (fun hne => none e04 (by rw [← hgo, if_pos (.inr (by omega))])) (fun heq => ?_)⟩
      rw [if_neg (by omega)] at hgo
      refine ⟨_, r4.get0 rfl, IfB.eq (fun h1 => ⟨t, r4.get rfl, ?_⟩) (fun h1 => ⟨_, r4.get0 rfl, IfB.eq (fun h2 => ⟨_, r4.get rfl, ?_⟩) (fun h2 => none e04 (by rw [← hgo, if_neg (by omega), if_neg (by omega)]))⟩)⟩
      · rw [if_pos (by omega)] at hgo
        refine AppC_own5 (news := (dB p).map bv) rfl (ot.ext e24) (by omega) (by simpa using lod) od4.rd (cellOk_bv _) (by omega) (by omega) fun r h5 o5 l5 k5 _ _ => ?_
        rw [← List.map_append] at o5
        refine ⟨m - 1, by omega, k + 1, nn, tx ++ dB p, rfl, rfl, by omega, ?_, o5, by simp; omega, hgo⟩
        exact (e04.toKeep.trans (k5.le (by omega))).ext
      · rw [if_neg (by omega)] at hgo
        rw [iSub64 (by omega)]
        refine IfB.eq (fun h3 => ⟨t, r4.get rfl, ?_⟩) (fun h3 => none e04 (by rw [← hgo, if_neg (by omega)]))
        refine (tail_spec (ot.ext e24).toRd (by omega)).mono ?_
        rintro _ h5 ⟨w, rfl, ow, lw, e5⟩
        refine ⟨w, rfl, e5, ?_⟩
        refine (slEqual_spec (od4.toRd.ext e5) ow.toRd (by omega)).mono ?_
        rintro _ h6 ⟨rfl, hh6⟩
        obtain rfl := hh6.symm
        refine ⟨_, rfl, e5, IfB.dec (fun heq => ?_) (fun hne => none (e04.trans e5) (by rw [← hgo, if_neg (fun hh => hne hh.2.2)]))⟩
        rw [if_pos ⟨by omega, by omega, heq⟩] at hgo
        rw [← hgo]
        exact ⟨e04.trans e5, text, rfl, (ot.ext e24).ext e5⟩
    refine IfB.eq (fun hk0 => ⟨_, r4.get0 rfl, IfB.eq (fun h3 => ?_) (fun h3 => IfB.eq (fun _ => none e04 ?_) (fun hh => absurd hk0 hh))⟩) (fun hk0 => IfB.eq (fun hh => absurd hh hk0) (fun _ => rest (by omega) (by omega)))
    · rw [if_pos (by omega)] at hgo
      exact ⟨_, r4.get rfl, m - 1, by omega, k + 1, dS p, tx, rfl, rfl, by omega, e04, ot.ext e24, by omega, hgo⟩
    · rw [← hgo, if_neg (by omega), if_pos (.inl (by omega))]
  · have hk : k = rows.length := by omega
    subst hk
    rw [List.drop_of_length_le (by simp), readGo] at hgo
    exact none e1 hgo.symm

end Go.Proofs.Ytfelkonmhfejdaa
