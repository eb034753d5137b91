/-
  BatchBack (chapter 17).
-/
import Derived.Test.YtehhkjgcklhfcaaBatch7
import Derived.Test.YtehhkjgcklhfcaaInB17
import Derived.Test.YtehhkjgcklhfcaaBridge
namespace Go.Proofs.Ytehhkjgcklhfcaa
set_option linter.unusedVariables false
set_option linter.unusedSimpArgs false

theorem Rd.alc {sz : Nat} (h : Hp) (c : List Value) (t n : Nat) (hn : c.length = n * sz) : Rd sz (Go.Proofs.Ytehhkjgcklhfcaa.alc h c t) ⟨some (nw h), n, n⟩ c := ⟨hn, Nat.le_refl _, RdC.alc h c t⟩
theorem blocks2 {num : Int} {T : List TxD} (c : CheckP num T) : 2 ≤ blocksN T := by
  have h1 := c.len
  have h2 := (c.order 0 (by omega)).2.2.1
  have h3 := blocksN_take (T := T) (j := 0) (by omega)
  have h4 := blocksN_le T (0 + 1)
  have h5 : blocksN (T.take 0) = 1 := by simp [blocksN]
  omega
def awT : List TxD := [(5, [(3, blockL 40 1)])]
theorem awT_check : CheckP 1 awT := by
  have hd : (blockL 40 1).length = 40 := blockL_length 40 1
  refine ⟨by omega, by decide, ?_, by simp [blocksN, awT], ?_⟩
  · intro j hj
    obtain rfl : j = 0 := by simp [awT] at hj; exact hj
    refine ⟨by simp [prevT, tm, awT], by simp [tm, awT], by simp [pt, awT], fun k h1 h2 => by simp [pt, awT] at h2; omega⟩
  · intro j hj
    obtain rfl : j = 0 := by simp [awT] at hj; exact hj
    refine ⟨fun h => by omega, by simp [pt, awT], fun p hp => ?_⟩
    obtain rfl : p = (3, blockL 40 1) := by simpa [pt, awT] using hp
    exact ⟨by show (0 : Int) ≤ 3; omega, by show (3 : Int) ≤ 1048576; omega, hd⟩
theorem awake17_spec (h : Hp) : HCalls Try.prog fn_scarplaw17_awake #[] h (Yes h) := by
  apply scarplaw17_awake_vc
  unfold vcscarplaw17_awake
  refine (Data_spec 1 h).mono ?_
  rintro _ h1 ⟨c, rfl, oc, lc, e1⟩
  refine ⟨c, rfl, ?_⟩
  intro h2 h3 h4
  have e2 : Ext h1 h2 := alc_ext _ _ _
  have e3 : Ext h2 h3 := alc_ext _ _ _
  refine loc2 rfl rfl fun h4 e4 r4 => ?_
  have e24 := e3.trans e4
  have e14 := e2.trans e24
  have s1 := e1.size
  have s4 := e14.size
  have s24 := e24.size
  have s2 : h2.size = h1.size + 1 := size_alc _ _ _
  have s3 : h3.size = h2.size + 1 := size_alc _ _ _
  have s34 := e4.size
  have rp : PutsR (· < h4.size) h4 ⟨some (nw h1), 1, 1⟩ [(3, blockL 40 1)] := by
    refine ⟨[((3, c), blockL 40 1)], rfl, ?_, fun a ha _ => ?_, fun x hx => ?_⟩
    · exact (Rd.alc (sz := 2) h1 [.int .i64 (3 : Int), .slice c.base c.len c.cap] ty_api_Put 1 rfl).ext e24
    · cases ha; show h1.size < h4.size; omega
    · simp only [List.mem_cons, List.not_mem_nil, or_false] at hx
      subst hx
      exact ⟨oc.toRd.ext e14, fun a ha _ => by have := (oc.lt ha).2; omega⟩
  have rt : TxsR (· < h4.size) h4 ⟨some (nw h2), 1, 1⟩ awT := by
    refine ⟨[((5, ⟨some (nw h1), 1, 1⟩), [(3, blockL 40 1)])], rfl, ?_, fun a ha _ => ?_, fun x hx => ?_⟩
    · exact (Rd.alc (sz := 2) h2 [.int .i64 (5 : Int), .slice (some (nw h1)) 1 1] ty_api_Tx 1 rfl).ext e4
    · cases ha; show h2.size < h4.size; omega
    · simp only [List.mem_cons, List.not_mem_nil, or_false] at hx
      subst hx; exact rp
  refine r4.get2s ?_
  have hpt : ∀ j, (pt awT j).length ≤ 1000000 := fun j => by
    unfold pt awT
    rcases j with _ | j <;> simp
  refine (BEncode_spec 1 7 rt hpt).mono ?_
  rintro _ h5 ⟨e5, ⟨hn, _⟩ | ⟨_, t, rows, rfl, ot, hrows⟩⟩
  · exact absurd ⟨awT_check, by omega, by omega⟩ hn
  have hlen : rows.length = 2 := by
    have := congrArg List.length hrows
    rw [encB_len] at this
    simpa [blocksN, awT] using this
  have htl := ot.len
  have e05 := (e1.trans e14).trans e5
  refine ⟨t, _, rfl, .yes rfl (.yes (by rw [htl, hlen]; rfl) ?_)⟩
  have hrow1 : (rows[1]'(by omega)).2 = encOf (preL 2 7 1 (allPuts awT).length (bodyB awT)) := by
    have h1 : (rows.map (·.2))[1]? = (encB 1 7 awT)[1]? := by
      have : encB (1 : Int).toNat (7 : Int).toNat awT = encB 1 7 awT := rfl
      rw [hrows, this]
    rw [List.getElem?_map, List.getElem?_eq_getElem (by omega)] at h1
    have h2 : (encB 1 7 awT)[1]? = some (encOf (preL 2 7 1 (allPuts awT).length (bodyB awT))) := rfl
    rw [h2] at h1
    exact Option.some.inj h1
  have hbl := bodyB_len awT
  have hbl' : (bodyB awT).length = 12 := hbl
  have hel : (encOf (preL 2 7 1 (allPuts awT).length (bodyB awT))).length = 64 := encOf_length (by rw [preL_length, hbl']; omega)
  have hmem : rows[1]'(by omega) ∈ rows := List.getElem_mem _
  have r1 := ot.each _ hmem
  rw [hrow1] at r1
  have hl1 := r1.lenB
  refine ixS ot.own.rd htl 1 rfl (by omega) (.yes (by rw [← hl1, hel]; rfl) ?_)
  refine ixS ot.own.rd htl 1 rfl (by omega) ?_
  refine ixB r1.rd hl1 0 rfl (by omega) (.yes ?_ ?_)
  · have : (encOf (preL 2 7 1 (allPuts awT).length (bodyB awT)))[0]? = some (UInt8.ofNat 2) := by simp [encOf, covL, preL]
    rw [List.getElem?_eq_getElem (by omega)] at this
    rw [Option.some.inj this]; decide
  · refine (r4.ext e5).get2s ?_
    refine (Blocks_spec 1 (rt.ext e5) (by simp [awT]) (by simp [blocksN, awT])).mono ?_
    rintro _ h6 ⟨e6, rfl⟩
    exact ⟨_, rfl, by simp [blocksN, awT], e05.trans e6⟩
theorem aw17 {h h1 : Hp} (e : Ext h h1) : HCalls Try.prog fn_scarplaw17_awake #[] h1 fun r vh => ∃ c1 : Bool, r = .bool c1 ∧ Yes h (.bool c1) vh :=
  (awake17_spec h1).mono (by rintro _ h2 ⟨rfl, e2⟩; exact ⟨_, rfl, rfl, e.trans e2⟩)

theorem InBB.rows {h : Hp} {s : Sl} {l : List (Sl × List UInt8)} (w : InBB h s l) : RowsR h s l := ⟨w.rd, w.len.symm, fun p hp => ⟨by simpa using (w.each p hp).len, (w.each p hp).cap, (w.each p hp).rd⟩⟩
theorem rwL_take {l : List (List UInt8)} {c k : Nat} (h : k < c) : rwL (l.take c) k = rwL l k := by simp [rwL, List.getElem?_take, h]
theorem rwL_append {l m : List (List UInt8)} {k : Nat} (h : k < l.length) : rwL (l ++ m) k = rwL l k := by simp [rwL, List.getElem?_append_left h]
/-- a batch, whatever stands behind. -/
theorem isB_self {num epoch : Nat} {T : List TxD} (c : CheckP num T) (he : epoch < 2 ^ 32) (m : List (List UInt8)) : IsB (encB num epoch T ++ m) (blocksN T - 1) num epoch T := by
  have h1 := encB_len num epoch T
  have h2 := blocks2 c
  refine ⟨by simp [h1]; omega, c, he, ?_⟩
  rw [show blocksN T - 1 + 1 = (encB num epoch T).length by omega, List.take_left' rfl]
theorem decOk {B : Nat → Prop} {h' : Hp} {l : List (List UInt8)} {num : Int} {t : Sl} {ep n err : Int} (d : BDecC B h' l num t ep n err) {i nm e : Nat} {T : List TxD} (b : IsB l i nm e T) : err = 0 ∧ num = nm ∧ ep = e ∧ n = ((i + 1 : Nat) : Int) ∧ TxsR B h' t T := by
  rcases d with ⟨hd, _⟩ | ⟨hno, _⟩ | ⟨i', nm', e', T', b', rfl, rfl, rfl, rfl, ht⟩
  · have := (dec_complete b).2.2.1
    have h2 := (hd i b.lt).2.2.2
    omega
  · exact absurd ⟨i, nm, e, T, b⟩ hno
  · obtain ⟨rfl, rfl, rfl, rfl⟩ := isB_unique b b'
    exact ⟨rfl, rfl, rfl, rfl, ht⟩
/-- of its first blocks nothing is read. -/
theorem decCut {B : Nat → Prop} {h' : Hp} {num' : Int} {t : Sl} {ep n err : Int} {num epoch : Nat} {T : List TxD} (c : CheckP num T) (he : epoch < 2 ^ 32) {k : Nat} (hk : k < blocksN T) (d : BDecC B h' ((encB num epoch T).take k) num' t ep n err) : err = 14 ∧ n = 0 := by
  have hb := isB_self c he []
  rw [List.append_nil] at hb
  have hl := encB_len num epoch T
  have hdat := (dec_complete hb).1
  have hall : ∀ i, i < ((encB num epoch T).take k).length → dataOk ((encB num epoch T).take k) i := fun i hi => by
    have hik : i < k := by simp at hi; omega
    have := hdat i (by omega)
    unfold dataOk at this ⊢
    rw [rwL_take hik, rwL_take (by omega)]
    exact this
  rcases d with ⟨_, rfl, _, _, _, rfl⟩ | ⟨_, ⟨i, hi, hno⟩, _⟩ | ⟨i', nm', e', T', b', _⟩
  · exact ⟨rfl, rfl⟩
  · exact absurd (hall i hi) hno
  · have := (dec_complete b').2.2.1
    have h2 := (hall i' b'.lt).2.2.2
    omega
/-- with one bit turned it is none. -/
theorem decFlip {B : Nat → Prop} {h' : Hp} {num' : Int} {t : Sl} {ep n err : Int} {num epoch : Nat} {T : List TxD} (c : CheckP num T) (he : epoch < 2 ^ 32) {q : Nat} (hq : q < blocksN T) {p : List UInt8} (hp : ¬ goodP p) (d : BDecC B h' ((encB num epoch T).set q p) num' t ep n err) : err = 13 ∧ n = 0 := by
  have hb := isB_self c he []
  rw [List.append_nil] at hb
  have hl := encB_len num epoch T
  have hrq : rwL ((encB num epoch T).set q p) q = p := by simp [rwL, hl, hq]
  have hrne : ∀ i, i ≠ q → rwL ((encB num epoch T).set q p) i = rwL (encB num epoch T) i := fun i hi => by simp [rwL, List.getElem?_set, Ne.symm hi]
  rcases d with ⟨hd, _⟩ | ⟨_, _, rfl, _, _, _, rfl⟩ | ⟨i', nm', e', T', b', _⟩
  · have := (hd q (by simp [hl, hq])).1.2
    rw [hrq] at this
    exact absurd this hp
  · exact ⟨rfl, rfl⟩
  · obtain ⟨d1, s1, k1, _⟩ := dec_complete b'
    rcases Nat.lt_trichotomy q i' with h | h | h
    · have := (d1 q h).1.2
      rw [hrq] at this
      exact absurd this hp
    · subst h
      have := s1.1.2
      rw [hrq] at this
      exact absurd this hp
    · rw [hrne i' (by omega)] at k1
      have := ((dec_complete hb).1 i' (by omega)).2.2.2
      omega
theorem encB_row {num epoch : Nat} {T : List TxD} (c : CheckP num T) (he : epoch < 2 ^ 32) {p : List UInt8} (hp : p ∈ encB num epoch T) : good p := by
  have hb := isB_self c he []
  rw [List.append_nil] at hb
  have hl := encB_len num epoch T
  obtain ⟨i, hi, rfl⟩ := List.mem_iff_getElem.1 hp
  have h2 := blocks2 c
  have hr : rwL (encB num epoch T) i = (encB num epoch T)[i] := by simp [rwL, hi]
  rw [← hr]
  obtain ⟨d1, s1, _⟩ := dec_complete hb
  by_cases e : i < blocksN T - 1
  · exact (d1 i e).1
  · obtain rfl : i = blocksN T - 1 := by omega
    exact s1.1

theorem BatchBack_law {h : Hp} (b : BatchV) (T : List TxD) (w : InTxs h b.txs T ∧ (Lit.int .i64 b.num).wf = true) (epoch : Int) (_ : (Lit.int .i64 epoch).wf = true) (s : Sl) (bh : List (Sl × List UInt8)) (wb : InBB h s bh) (cut : Int) (_ : (Lit.int .i64 cut).wf = true) (bit : Int) (_ : (Lit.int .i64 bit).wf = true) :
    HCalls Try.prog fn_scarplaw17_BatchBack #[.agg #[.int .i64 b.num, .slice b.txs.base b.txs.len b.txs.cap], .int .i64 epoch, .slice s.base s.len s.cap, .int .i64 cut, .int .i64 bit] h (Yes h) := by
  apply scarplaw17_BatchBack_vc
  unfold vcscarplaw17_BatchBack
  obtain ⟨⟨rt, hTm, hTe⟩, _⟩ := w
  have rbh := wb.rows
  intro h1
  have e1 : Ext h h1 := alc_ext _ _ _
  have r1 : Row h1 h.size [.int .i64 b.num, .slice b.txs.base b.txs.len b.txs.cap] := Row.alc _ _ _
  refine ⟨b.txs, r1.get rfl, ?_⟩
  refine (small_spec (rt.ext e1) (by rw [rt.len]; exact hTm) hTe).mono ?_
  rintro _ h2 ⟨e2, sm, rfl, hsm⟩
  have e02 := e1.trans e2
  refine ⟨sm, rfl, IfB.not (IfB.intro (fun hst => ?_) (fun _ => aw17 e02))⟩
  have hS := hsm hst
  refine IfB.dec (fun _ => aw17 e02) (fun h10 => ?_)
  have hbl := rbh.len
  refine (Total_spec (rbh.ext e02) (by have := wb.cap; have := wb.max; omega) (fun x hx => by have := (wb.each x hx).len; have := (wb.each x hx).cap; have := (wb.each x hx).max; omega) (top := 1000) (by omega)).mono ?_
  rintro _ h3 ⟨e3, n, rfl, hn⟩
  have e03 := e02.trans e3
  refine ⟨_, rfl, IfB.dec (fun _ => aw17 e03) (fun hle => ?_)⟩
  have r3 := r1.ext (e2.trans e3)
  have s03 := e03.size
  refine r3.get2s ?_
  have rt3 : TxsR (· < h3.size) h3 b.txs T := (rt.ext e03).mono fun b hb => by omega
  refine (BEncode_spec b.num epoch rt3 hS.pt).mono ?_
  rintro _ h4 ⟨e4, ⟨hno, rfl⟩ | ⟨⟨ck, he0, he1⟩, t, rows, rfl, ot, hrows⟩⟩
  · exact ⟨Sl.nil, _, rfl, .yes rfl (.yes rfl (aw17 (e03.trans e4)))⟩
  have e04 := e03.trans e4
  have hnum := ck.num
  have hbig := blocks2 ck
  have hblk := ck.blocks
  obtain ⟨num, hnumE⟩ : ∃ k : Nat, b.num = k := ⟨b.num.toNat, by omega⟩
  obtain ⟨ep, hepE⟩ : ∃ k : Nat, epoch = k := ⟨epoch.toNat, by omega⟩
  rw [hnumE, hepE, Int.toNat_natCast, Int.toNat_natCast] at hrows
  rw [hnumE] at ck
  have hep : ep < 2 ^ 32 := by omega
  have hel := encB_len num ep T
  have hrl : rows.length = blocksN T := by have := congrArg List.length hrows; rw [hel] at this; simpa using this
  have htl := ot.len
  have htcap := ot.own.le
  refine ⟨t, _, rfl, .no rfl (IfB.dec (fun hh => by omega) (fun _ => ?_))⟩
  intro h5
  have e5 : Ext h4 h5 := alc_ext _ _ _
  have o5 : Own h4.size 1 h5 ⟨some (nw h4), 0, 0⟩ [] := Own.alc h4 [] ty_suint8 0 1 rfl
  have okS : ∀ l : List (Sl × List UInt8), ∀ v ∈ l.map (fun p => slV p.1), cellOk v = true := fun l v hv => by
    obtain ⟨x, _, rfl⟩ := List.mem_map.1 hv; rfl
  refine AppC_own (news := rows.map fun p => slV p.1) rfl o5 e5.size (by simp; omega) (ot.own.rd.ext e5) (okS _) (by simp; omega) (by simp; omega) fun s6 h6 o6 l6 k6 _ => ?_
  simp only [List.nil_append] at o6
  simp only at l6
  have e46 : Ext h4 h6 := (e5.toKeep.trans k6).ext
  refine AppC_own (news := bh.map fun p => slV p.1) rfl o6 e46.size (by simp; omega) (rbh.rd.ext (e04.trans e46)) (okS _) (by omega) (by omega) fun s7 h7 o7 l7 k7 _ => ?_
  have e47 : Ext h4 h7 := (e46.toKeep.trans k7).ext
  have e07 := e04.trans e47
  have rr7 : RowsR h7 s7 (rows ++ bh) := ⟨by have := o7.rd; simpa using this, by simp; omega, fun p hp => by
    rcases List.mem_append.1 hp with hp | hp
    · exact (ot.each p hp).ext e47
    · exact (rbh.each p hp).ext e07⟩
  refine (BDecode_spec rr7 (by simp; omega)).mono ?_
  rintro _ h8 ⟨e8, num8, t8, ep8, n8, err8, rfl, d8⟩
  rw [List.map_append, hrows] at d8
  obtain ⟨rfl, rfl, rfl, rfl, rt8⟩ := decOk d8 (isB_self ck hep (bh.map (·.2)))
  refine ⟨_, t8, _, _, _, rfl, ?_⟩
  intro h9
  refine loc2 rfl rfl fun h10 e10 r10 => .no rfl (.no (by rw [htl, hrl]; simp; omega) (.no (by rw [hepE]; simp) (r10.get2s ?_)))
  have e710 := e8.trans e10
  have e410 := e47.trans e710
  have e010 := e04.trans e410
  refine (r3.ext (e4.trans e410)).get2s ?_
  refine (SameBatch_spec _ _ (rt8.ext e10) (rt.ext e010) (by have := hS.len; omega) hS.pt).mono ?_
  rintro _ h11 ⟨e11, sb, rfl, hsb⟩
  have hsbt : sb = true := hsb.2 ⟨hnumE.symm, rfl⟩
  subst hsbt
  refine ⟨true, rfl, .no rfl ?_⟩
  refine (Round_spec cut (t.len : Int) (by omega) (by omega) h11).mono ?_
  rintro _ h11 ⟨rfl, rfl⟩
  have hm1 := Int.emod_nonneg cut (show (t.len : Int) ≠ 0 by omega)
  have hm2 := Int.emod_lt_of_pos cut (show (0 : Int) < (t.len : Int) by omega)
  obtain ⟨k, hk, hk2⟩ : ∃ k : Nat, cut % (t.len : Int) = k ∧ k < blocksN T := ⟨(cut % (t.len : Int)).toNat, by omega, by omega⟩
  rw [hk]
  have e411 := e410.trans e11
  refine ⟨_, rfl, by omega, by omega, by omega, by omega, ?_⟩
  have ot11 := ot.ext e411
  have rc : RowsR h11 (cutSl t ((0 : Nat) : Int) (k : Int) (t.cap : Int) 1) (rows.take k) := by
    have hc := ot11.own.toRd.cut (lo := 0) (hi := k) (m := t.cap) (by omega) (by omega) (by omega)
    refine ⟨?_, by rw [cut_len]; simp; omega, fun p hp => ot11.each p (List.mem_of_mem_take hp)⟩
    have := hc.rd
    simpa [List.map_take] using this
  refine (BDecode_spec rc (by simp; omega)).mono ?_
  rintro _ h12 ⟨e12, num12, t12, ep12, n12, err12, rfl, d12⟩
  rw [List.map_take, hrows] at d12
  obtain ⟨rfl, rfl⟩ := decCut ck hep hk2 d12
  refine ⟨_, t12, _, _, _, rfl, ?_⟩
  intro h13
  refine loc2 rfl rfl fun h14 e14 r14 => ?_
  have e414 := (e411.trans e12).trans e14
  have e512 : iMul .i64 (t.len : Int) (512 : Int) = ((blocksN T * 512 : Nat) : Int) := by rw [iMul64 (by omega), Int.natCast_mul, htl, hrl]; rfl
  rw [e512]
  refine (Round_spec bit _ (by omega) (by omega) h14).mono ?_
  rintro _ h14 ⟨rfl, rfl⟩
  have hb1 := Int.emod_nonneg bit (show ((blocksN T * 512 : Nat) : Int) ≠ 0 by omega)
  have hb2 := Int.emod_lt_of_pos bit (show (0 : Int) < ((blocksN T * 512 : Nat) : Int) by omega)
  obtain ⟨q, hq, hq2⟩ : ∃ q : Nat, bit % ((blocksN T * 512 : Nat) : Int) = q ∧ q < blocksN T * 512 := ⟨(bit % ((blocksN T * 512 : Nat) : Int)).toNat, by omega, by omega⟩
  rw [hq]
  refine ⟨_, rfl, ?_⟩
  have ot14 := ot.ext e414
  refine ⟨fun tu i m h' => ∃ (j : Nat) (ro : List (Sl × List UInt8)), i = j ∧ m + j = blocksN T ∧ Ext h14 h' ∧ OwnRows h14.size h' tu ro ∧ ro.map (·.2) = (encB num ep T).take j ∧ (∀ p ∈ ro, Own h14.size 1 h' p.1 (p.2.map bv)) ∧ ∀ x y (hx : x < ro.length) (hy : y < ro.length), x < y → ∀ a a', ro[x].1.base = some a → ro[y].1.base = some a' → a.block ≠ a'.block, blocksN T,
    ⟨0, [], rfl, rfl, .refl _, OwnRows.nil _ _, rfl, fun p hp => by simp at hp, fun x y hx => by simp at hx⟩, ?_⟩
  rintro _ tu _ m h20 ⟨j, ro, rfl, hm, e20, o20, q20, w20, dis⟩
  have hjl : ro.length = min j (blocksN T) := by have := congrArg List.length q20; simpa [hel] using this
  have s20 := e20.size
  refine IfB.dec (fun hlt => ?_) (fun hge => ?_)
  · have hj : j < rows.length := by omega
    have hmem : rows[j] ∈ rows := List.getElem_mem hj
    have hre : rows[j].2 = (encB num ep T)[j]'(by omega) := by
      have : (rows.map (·.2))[j]? = (encB num ep T)[j]? := by rw [hrows]
      rw [List.getElem?_map, List.getElem?_eq_getElem hj, List.getElem?_eq_getElem (by omega)] at this
      exact Option.some.inj this
    have hg64 : rows[j].2.length = 64 := by rw [hre]; exact (encB_row ck hep (List.getElem_mem _)).1
    intro h21
    have e21 : Ext h20 h21 := alc_ext _ _ _
    refine ixS ((ot14.own.rd.ext e20).ext e21) htl j rfl hj ?_
    refine cpB ((ot14.each _ hmem).ext e20) (by omega) fun s2 h22 o22 l22 e22 => ?_
    intro h23
    refine o20.push1 rfl s20 e22 o22 (by omega) (fun r h24 o24 l24 k24 x24 b24 => ?_) (by omega)
    have s22 := e22.size
    have nb : ∀ p ∈ ro, ∀ a, p.1.base = some a → ∀ a', tu.base = some a' → a.block ≠ a'.block := fun p hp a ha => (o20.base p hp a ha).2.2
    have o22' : Own h14.size 1 h24 s2 (rows[j].2.map bv) := by
      exact (o22.weak s20).eq fun a ha => x24 _ (o22.lt ha).2 fun a' ha' => by have := (o22.lt ha).1; have := (o20.own.lt ha').2; omega
    refine ⟨m - 1, by omega, j + 1, _, by rw [iAdd64 (by omega)]; push_cast; rfl, by omega, (e20.toKeep.trans k24).ext, o24, ?_, fun p hp => ?_, fun x y hx hy hxy a a' ha ha' => ?_⟩
    · rw [List.map_append, q20, List.take_succ_eq_append_getElem (by omega), ← hre]; rfl
    · rcases List.mem_append.1 hp with hp | hp
      · exact ((w20 p hp).ext e22).eq fun a ha => x24 _ (by have := ((w20 p hp).lt ha).2; omega) (nb p hp a ha)
      · simp only [List.mem_cons, List.not_mem_nil, or_false] at hp
        subst hp; exact o22'
    · simp only [List.length_append, List.length_cons, List.length_nil] at hx hy
      have hxr : x < ro.length := by omega
      rw [List.getElem_append_left hxr] at ha
      by_cases hyr : y < ro.length
      · rw [List.getElem_append_left hyr] at ha'
        exact dis x y hxr hyr hxy a a' ha ha'
      · rw [List.getElem_append_right (by omega)] at ha'
        have hy0 : y - ro.length = 0 := by omega
        simp only [hy0, List.getElem_cons_zero] at ha'
        have h1 := (o20.base _ (List.getElem_mem hxr) a ha).2.1
        have h2 := (o22.lt ha').1
        omega
  · have hj : j = blocksN T := by omega
    subst hj
    rw [List.take_of_length_le (by omega)] at q20
    have hrol : ro.length = blocksN T := by omega
    have htul := o20.len
    have hq512 : q / 512 < ro.length := by omega
    have eq1 : iQuo .i64 (q : Int) (512 : Int) = ((q / 512 : Nat) : Int) := by rw [iQuo64 (by omega)]; rfl
    have eq2 : iRem (q : Int) (512 : Int) = ((q % 512 : Nat) : Int) := by rw [iRem_nn (by omega)]; omega
    have eq3 : iQuo .i64 ((q % 512 : Nat) : Int) (8 : Int) = ((q % 512 / 8 : Nat) : Int) := by rw [iQuo64 (by omega)]; rfl
    have eq4 : iRem (q : Int) (8 : Int) = ((q % 8 : Nat) : Int) := by rw [iRem_nn (by omega)]; omega
    rw [eq1, eq2, eq3, eq4]
    have hmem : ro[q / 512] ∈ ro := List.getElem_mem hq512
    have hre : ro[q / 512].2 = (encB num ep T)[q / 512]'(by omega) := by
      have : (ro.map (·.2))[q / 512]? = (encB num ep T)[q / 512]? := by rw [q20]
      rw [List.getElem?_map, List.getElem?_eq_getElem hq512, List.getElem?_eq_getElem (by omega)] at this
      exact Option.some.inj this
    have hgood : good ro[q / 512].2 := by rw [hre]; exact encB_row ck hep (List.getElem_mem _)
    have h64 := hgood.1
    refine ⟨by omega, ixS o20.own.rd htul (q / 512) rfl hq512 ⟨by omega, by omega, by omega, ixS o20.own.rd htul (q / 512) rfl hq512 ⟨by omega, by omega, ?_⟩⟩⟩
    have wq := w20 _ hmem
    have hlq := wq.toRd.lenB
    refine ixB wq.rd hlq (q % 512 / 8) rfl (by omega) ⟨by omega, by omega, ?_⟩
    obtain ⟨a4, ha4, _⟩ := wq.rd.get (i := 0) (by rw [List.length_map]; omega)
    obtain ⟨ok5, o25, k25, x25, s25⟩ := wq.set ha4 (k := q % 512 / 8) (by rw [List.length_map]; omega) (bv (ro[q / 512].2[q % 512 / 8]'(by omega) ^^^ (1 <<< UInt8.ofNat (q % 512 % 8))))
    refine ⟨a4, ha4, by omega, by omega, ?_⟩
    rw [turn_val _ _ (by omega), show q % 8 = q % 512 % 8 by omega]
    rw [show (((q % 512 / 8 : Nat) : Int)).toNat * 1 = q % 512 / 8 from by rw [Int.toNat_natCast, Nat.mul_one]]
    refine ⟨ok5, ?_⟩
    generalize hset h20 (a4.add (q % 512 / 8)) (bv (ro[q / 512].2[q % 512 / 8]'(by omega) ^^^ (1 <<< UInt8.ofNat (q % 512 % 8)))) = h25 at *
    have hblk4 := (o20.base _ hmem a4 ha4)
    have r25 : RowsR h25 tu (ro.set (q / 512) (ro[q / 512].1, ro[q / 512].2.set (q % 512 / 8) (ro[q / 512].2[q % 512 / 8]'(by omega) ^^^ (1 <<< UInt8.ofNat (q % 512 % 8))))) := by
      refine ⟨?_, by simpa using htul, fun p hp => ?_⟩
      · have hsame : (ro.set (q / 512) (ro[q / 512].1, ro[q / 512].2.set (q % 512 / 8) (ro[q / 512].2[q % 512 / 8]'(by omega) ^^^ (1 <<< UInt8.ofNat (q % 512 % 8))))).map (fun p => slV p.1) = ro.map fun p => slV p.1 := by
          rw [List.map_set]
          apply List.ext_getElem
          · simp
          · intro i h1 h2
            rw [List.getElem_set]
            split
            · rename_i e; subst e; simp
            · rfl
        rw [hsame]
        exact o20.own.rd.eq fun a ha => x25 _ fun e => hblk4.2.2 a ha e.symm
      · obtain ⟨i, hi, rfl⟩ := List.mem_iff_getElem.1 hp
        simp only [List.length_set] at hi
        rw [List.getElem_set]
        split
        · have := o25.toRd
          rw [map_set_bv] at this
          exact this
        · rename_i hne
          refine (o20.each _ (List.getElem_mem hi)).eq fun a ha => x25 _ fun e => ?_
          rcases Nat.lt_or_ge i (q / 512) with hlt | hge'
          · exact dis i (q / 512) hi hq512 hlt a a4 ha ha4 e
          · exact dis (q / 512) i hq512 hi (by omega) a4 a ha4 ha e.symm
    refine (BDecode_spec r25 (by simp; omega)).mono ?_
    rintro _ h26 ⟨e26, num26, t26, ep26, n26, err26, rfl, d26⟩
    rw [List.map_set, q20] at d26
    have hbad : ¬ goodP (ro[q / 512].2.set (q % 512 / 8) (ro[q / 512].2[q % 512 / 8]'(by omega) ^^^ (1 <<< UInt8.ofNat (q % 512 % 8)))) := flip_bad h64 (goodP_sumOk hgood.2) (by omega)
    obtain ⟨rfl, rfl⟩ := decFlip ck hep (by omega) hbad d26
    refine ⟨_, t26, _, _, _, rfl, ?_⟩
    intro h27
    refine loc2 rfl rfl fun h28 e28 r28 => ?_
    have e1425 : Ext h14 h25 := (e20.toKeep.trans k25).ext
    exact .yes rfl (.yes rfl (.yes rfl (.yes rfl (aw17 ((e04.trans e414).trans (e1425.trans (e26.trans e28)))))))

end Go.Proofs.Ytehhkjgcklhfcaa
