/-
  batch.Encode: a batch as blocks.
-/
import Derived.Test.YtehhkjgcklhfcaaBatch1
import Derived.Test.YtehhkjgcklhfcaaLab
import Derived.Test.YtehhkjgcklhfcaaFrameV
namespace Go.Proofs.Ytehhkjgcklhfcaa
set_option linter.unusedVariables false
set_option linter.unusedSimpArgs false

/-! ### As plain functions -/
def putB (epoch num : Nat) (p : PutD) : List UInt8 := encOf (preL 1 epoch num p.1.toNat p.2)
def allPuts (T : List TxD) : List PutD := T.flatMap (·.2)
def lastT (T : List TxD) (j : Nat) : Int := if j = 0 then tm T 0 else tm T (j - 1)
def stepN (T : List TxD) (j : Nat) : Nat := (tm T j - lastT T j).toNat
def head9 (T : List TxD) : List UInt8 := leB 8 (tm T 0).toNat ++ [UInt8.ofNat T.length]
def stepsB (T : List TxD) (j : Nat) : List UInt8 := (List.range j).flatMap fun k => leB 2 (stepN T k)
def cntsB (T : List TxD) (j : Nat) : List UInt8 := (List.range j).map fun k => UInt8.ofNat (pt T k).length
def bodyB (T : List TxD) : List UInt8 := head9 T ++ stepsB T T.length ++ cntsB T T.length
def encB (num epoch : Nat) (T : List TxD) : List (List UInt8) := (allPuts T).map (putB epoch num) ++ [encOf (preL 2 epoch num (allPuts T).length (bodyB T))]
theorem allPuts_len (T : List TxD) : (allPuts T).length + 1 = blocksN T := by
  unfold allPuts blocksN
  rw [List.length_flatMap]; omega
theorem allPuts_take {T : List TxD} {j : Nat} (h : j < T.length) : allPuts (T.take (j + 1)) = allPuts (T.take j) ++ pt T j := by
  unfold allPuts
  rw [List.take_succ_eq_append_getElem h, List.flatMap_append, ← pt_get h]
  simp
theorem stepsB_len (T : List TxD) (j : Nat) : (stepsB T j).length = 2 * j := by
  induction j with
  | zero => rfl
  | succ j ih => unfold stepsB at *; rw [List.range_succ, List.flatMap_append, List.length_append, ih]; simp [leB_length]; omega
theorem stepsB_succ (T : List TxD) (j : Nat) : stepsB T (j + 1) = stepsB T j ++ leB 2 (stepN T j) := by unfold stepsB; rw [List.range_succ, List.flatMap_append]; simp
theorem cntsB_succ (T : List TxD) (j : Nat) : cntsB T (j + 1) = cntsB T j ++ [UInt8.ofNat (pt T j).length] := by unfold cntsB; rw [List.range_succ, List.map_append]; rfl
theorem cntsB_len (T : List TxD) (j : Nat) : (cntsB T j).length = j := by simp [cntsB]
theorem head9_len (T : List TxD) : (head9 T).length = 9 := by simp [head9, leB_length]
theorem bodyB_len (T : List TxD) : (bodyB T).length = 9 + 3 * T.length := by simp only [bodyB, List.length_append, head9_len, stepsB_len, cntsB_len]; omega
theorem encB_len (num epoch : Nat) (T : List TxD) : (encB num epoch T).length = blocksN T := by rw [← allPuts_len]; simp [encB]
theorem lastT_step {num : Int} {T : List TxD} (c : CheckP num T) {j : Nat} (hj : j < T.length) : 0 ≤ tm T j - lastT T j ∧ tm T j - lastT T j ≤ 65535 := by
  unfold lastT
  by_cases e : j = 0
  · subst e; simp
  · rw [if_neg e]
    have h1 := (c.order j hj).1
    have h2 := (c.each j hj).1 (by omega)
    simp [prevT, e] at h1
    omega
theorem leB2 (v : Nat) : leB 2 v = [UInt8.ofNat v, UInt8.ofNat (v / 256)] := by
  show [byteAt v 0, byteAt v 1] = _
  unfold byteAt; simp
/-- a row is written. -/
theorem EncodeOk_spec {k e s l : Int} {h : Hp} {b : Sl} {bs : List UInt8} (hb : Rd 1 h b (bs.map bv)) (ok : okB k e s l) (hl : bs.length ≤ 40) :
    HCalls Try.prog fn_frame_Encode #[.agg #[.int .i64 k, .int .i64 e, .int .i64 s, .int .i64 l, .slice b.base b.len b.cap]] h fun r h' => Ext h h' ∧ ∃ t : Sl, r = .tuple #[.slice t.base t.len t.cap, .int .i64 0] ∧ Own h.size 1 h' t ((encOf (preL k.toNat e.toNat s.toNat l.toNat bs)).map bv) := by
  refine (Encode_spec k e s l hb).mono ?_
  rintro _ h' ⟨e1, ⟨hn, _⟩ | ⟨_, hl', _⟩ | ⟨_, _, t, rfl, ot, lt⟩⟩
  · exact absurd ok hn
  · omega
  · exact ⟨e1, t, rfl, ot⟩

def EncBR (h : Hp) (num epoch : Int) (T : List TxD) (r : Value) (h' : Hp) : Prop :=
  Ext h h' ∧ (¬ (CheckP num T ∧ 0 ≤ epoch ∧ epoch ≤ 4294967295) ∧ r = .tuple #[.slice none 0 0, .int .i64 1] ∨ (CheckP num T ∧ 0 ≤ epoch ∧ epoch ≤ 4294967295) ∧ ∃ t rows, r = .tuple #[.slice t.base t.len t.cap, .int .i64 0] ∧ OwnRows h.size h' t rows ∧ rows.map (·.2) = encB num.toNat epoch.toNat T)

theorem BEncode_spec {h : Hp} {s : Sl} {T : List TxD} (num epoch : Int) (t : TxsR (· < h.size) h s T) (hP : ∀ j, (pt T j).length ≤ 1000000) :
    HCalls Try.prog fn_batch_Encode #[.agg #[.int .i64 num, .slice s.base s.len s.cap], .int .i64 epoch] h (EncBR h num epoch T) := by
  apply batch_Encode_vc
  unfold vcbatch_Encode
  have hl := t.len
  intro h1
  have e1 : Ext h h1 := alc_ext _ _ _
  have r1 : Row h1 h.size [.int .i64 num, .slice s.base s.len s.cap] := Row.alc _ _ _
  have s1 : h1.size = h.size + 1 := size_alc _ _ _
  refine r1.get2s ?_
  refine (Check_spec num (t.ext e1) hP).mono ?_
  rintro _ h2 ⟨e2, c, rfl, hc, hc01⟩
  have e02 := e1.trans e2
  refine ⟨_, rfl, IfB.ne (fun hne => ⟨e02, .inl ⟨fun k => hne (hc.2 k.1), rfl⟩⟩) (fun h0 => IfB.dec (fun hneg => ⟨e02, .inl ⟨fun k => by omega, rfl⟩⟩) (fun hneg => IfB.dec (fun hbig => ⟨e02, .inl ⟨fun k => by omega, rfl⟩⟩) (fun hbig => ?_)))⟩
  have ck := hc.1 h0
  have hT1 := ck.len
  have hnum := ck.num
  obtain ⟨num, rfl⟩ : ∃ k : Nat, num = k := ⟨num.toNat, by omega⟩
  obtain ⟨epoch, rfl⟩ : ∃ k : Nat, epoch = k := ⟨epoch.toNat, by omega⟩
  have r2 := r1.ext e2
  have ht0 : 0 < tm T 0 := prev_le ck.order (by omega)
  have ht0' := (ck.order 0 (by omega)).2.1
  refine ⟨s, r2.get rfl, ?_⟩
  refine (t.ext e02).ix 0 rfl (by omega) fun a d c0 _ _ => ⟨_, c0, ?_⟩
  rw [tm_get (show 0 < T.length by omega)]
  have cv : iConv .u64 (tm T 0) = (((tm T 0).toNat : Nat) : Int) := by
    obtain ⟨v, hv⟩ : ∃ v : Nat, tm T 0 = v := ⟨(tm T 0).toNat, by omega⟩
    rw [hv, iConv_nat u64s, Nat.mod_eq_of_lt (by simp only [IntKind.bits]; omega), Int.toNat_natCast]
  rw [cv]
  have hv64 : (tm T 0).toNat < 2 ^ 64 := by omega
  have s2 := e2.size
  refine ⟨fun body h' => Ext h2 h' ∧ Own h2.size 1 h' body ((head9 T).map bv), ?_, ?_⟩
  · refine ⟨s, r2.get rfl, ?_, ?_⟩
    · refine (Put64_spec _ hv64 h2).mono ?_
      rintro _ h3 ⟨u, rfl, ou, lu, e3⟩
      refine ⟨u, rfl, e3, ?_⟩
      intro h4
      have e4 : Ext h3 h4 := alc_ext _ _ _
      rw [leB_length] at lu
      refine ⟨e3.trans e4, ?_⟩
      have hb : Value.int .u8 (iConv .u8 (s.len : Int)) = bv (UInt8.ofNat T.length) := by rw [hl, bv_conv]
      refine AppC_new (lo := h2.size) (l := (leB 8 (tm T 0).toNat).map bv) (news := [.int .u8 (iConv .u8 (s.len : Int))]) (n := 1) rfl ou e3.size rfl (by simp [cellOk]) (by omega) (by omega) fun r h5 o5 l5 k5 _ => ?_
      rw [hb] at o5
      exact ⟨(e3.toKeep.trans k5).ext, by simpa [head9] using o5⟩
    · intro h3
      have e3 : Ext h2 h3 := alc_ext _ _ _
      refine ⟨e3, ?_⟩
      refine (Put64_spec _ hv64 h3).mono ?_
      rintro _ h4 ⟨u, rfl, ou, lu, e4⟩
      refine ⟨u, rfl, e3.trans e4, ?_⟩
      rw [leB_length] at lu
      have s3 := e3.size
      have rx : RdC h4 (some (nw h2)) ([UInt8.ofNat T.length].map bv) := by
        have : RdC h3 (some (nw h2)) [.int .u8 (iConv .u8 (s.len : Int))] := RdC.alc h2 _ _
        rw [hl, bv_conv] at this
        exact this.ext e4
      refine AppC_own (news := [UInt8.ofNat T.length].map bv) rfl ou e4.size rfl rx (cellOk_bv _) (by simp only; omega) (by simp only; omega) fun r h5 o5 l5 k5 _ => ?_
      refine ⟨((e3.trans e4).toKeep.trans (k5.le s3)).ext, ?_⟩
      have := o5.weak s3
      simpa [head9] using this
  rintro _ body h3 ⟨e3, o3⟩
  have e03 := e02.trans e3
  have s3 := e3.size
  have hrow : ∀ {h' : Hp}, Keep h2.size h2 h' → Row h' h.size [.int .i64 (num : Int), .slice s.base s.len s.cap] := fun k => r2.eq (k.block _ (by omega))
  have e3k : Keep h2.size h2 h3 := e3.toKeep
  refine ⟨s, (hrow e3k).get rfl, ?_⟩
  have hall := allPuts_len T
  have hblk := ck.blocks
  refine ⟨fun out body last i m h' => ∃ (j : Nat) (F : Nat → Bool) (rows : List (Sl × List UInt8)), i = j ∧ m + j = T.length ∧ Ext h2 h' ∧ last = lastT T j ∧ RB h2.size F h' out rows body (head9 T ++ stepsB T j) ∧ rows.map (·.2) = (allPuts (T.take j)).map (putB epoch num), T.length,
    ⟨0, fun _ => false, [], rfl, rfl, e3, rfl, ⟨OwnRows.nil _ _, ⟨fun a ha => (by cases ha), fun p hp => by simp at hp⟩, by simpa [stepsB] using o3, fun _ _ => rfl⟩, rfl⟩, ?_⟩
  rintro _ out body4 _ _ m h4 ⟨j, F, rows, rfl, hm, e4, rfl, x4, q4⟩
  have s4 := e4.size
  refine IfB.dec (fun hlt => ?_) (fun hge => ?_)
  · have hj : j < T.length := by omega
    refine (t.ext (e02.trans e4)).ix j rfl hj fun a d c0 c1 hp => ⟨_, d, c0, c1, ?_⟩
    rw [tm_get hj]
    rw [pt_get hj] at hp
    have hpl := hp.len
    intro h5
    refine loc2 rfl rfl fun h6 e6 r6 => ⟨d, r6.get rfl, ?_⟩
    have s6 := e6.size
    have hjle : (allPuts (T.take (j + 1))).length ≤ (allPuts T).length := by
      have h1 := allPuts_len (T.take (j + 1)); have h2 := blocksN_le T (j + 1); omega
    rw [allPuts_take hj, List.length_append] at hjle
    have hrl : rows.length = (allPuts (T.take j)).length := by have := congrArg List.length q4; simpa using this
    have x6 : RB h2.size (fun b => if b < h4.size then F b else false) h6 out rows body4 (head9 T ++ stepsB T j) := (x4.relab (fun b hb => if_pos hb)).ext e6
    have hstep := lastT_step ck hj
    refine ⟨fun out i q h' => ∃ (k : Nat) (F' : Nat → Bool) (rows' : List (Sl × List UInt8)), i = k ∧ q + k = (pt T j).length ∧ Ext h2 h' ∧ RB h2.size F' h' out rows' body4 (head9 T ++ stepsB T j) ∧ rows'.map (·.2) = (allPuts (T.take j) ++ (pt T j).take k).map (putB epoch num) ∧ Row h' h4.size [.int .i64 (tm T j), .slice d.base d.len d.cap] ∧ F' h4.size = false, (pt T j).length,
      ⟨0, _, rows, rfl, rfl, e4.trans e6, x6, by simpa using q4, r6, if_neg (by omega)⟩, ?_⟩
    rintro _ out7 _ q h7 ⟨k, F7, rows7, rfl, hq, e7, x7, q7, r7, f7⟩
    have s7 := e7.size
    have hr7 : rows7.length = (allPuts (T.take j)).length + min k (pt T j).length := by have := congrArg List.length q7; simp at this; omega
    refine IfB.dec (fun hlt2 => ?_) (fun hge2 => ?_)
    · have hk : k < (pt T j).length := by omega
      have hp7 : PutsR (· < h.size) h7 d (pt T j) := hp.eq fun b hb => by rw [e7.block b (by omega), e4.block b (by omega)]
      refine hp7.ix k rfl hk fun a2 d2 c2 c3 rd _ => ⟨_, d2, c2, c3, ?_⟩
      have hpo : PutOk (pt T j)[k] := (ck.each j hj).2.2 _ (List.getElem_mem hk)
      obtain ⟨hp1, hp2, hp3⟩ := hpo
      intro h8
      refine loc2 rfl rfl fun h9 e9 r9 => ?_
      have s9 := e9.size
      have e29 := e7.trans e9
      refine ⟨_, (hrow e29.toKeep).get0 rfl, _, r9.get0 rfl, d2, r9.get rfl, ?_⟩
      refine (EncodeOk_spec (rd.ext e9) (k := 1) (e := (epoch : Int)) (s := (num : Int)) ⟨by omega, by omega, by omega, by omega⟩ (by omega)).mono ?_
      rintro _ h10 ⟨e10, u, rfl, ou⟩
      refine ⟨u, _, rfl, ?_⟩
      intro h11
      have ou' : Own h7.size 1 h10 u ((putB epoch num (pt T j)[k]).map bv) := ou.weak s9
      refine x7.pushRow rfl s7 (e9.trans e10) ou' (by omega) (by omega) fun r h12 F12 x12 f12 fr12 k12 l12 => ?_
      have hlt7 : h4.size < h7.size := r7.lt
      refine ⟨q - 1, by omega, k + 1, F12, _, by rw [iAdd64 (by omega)]; push_cast; rfl, by omega, (e7.toKeep.trans k12).ext, x12, ?_, r7.eq (fr12 _ hlt7 f7), by rw [f12 _ hlt7]; exact f7⟩
      rw [List.map_append, q7, List.take_succ_eq_append_getElem hk, ← List.append_assoc, List.map_append (l₁ := allPuts (T.take j) ++ (pt T j).take k)]; rfl
    · have hk : k = (pt T j).length := by omega
      subst hk
      rw [List.take_length] at q7
      refine ⟨_, r7.get0 rfl, _, r7.get0 rfl, by omega, ?_⟩
      intro h8
      obtain ⟨v, hv⟩ : ∃ v : Nat, tm T j - lastT T j = v := ⟨(tm T j - lastT T j).toNat, by omega⟩
      have hsv : stepN T j = v := by unfold stepN; omega
      have g1 : 0 < tm T j := prev_le ck.order hj
      have g2 := (ck.order j hj).2.1
      have g3 : iSub .i64 (tm T j) (lastT T j) = (v : Int) := by rw [iSub64 (by omega)]; exact hv
      have ry : Rd 1 h8 (Sl.mk (some (nw h7)) 2 2) ((leB 2 (stepN T j)).map bv) := by
        refine ⟨by simp [leB_length], Nat.le_refl _, ?_⟩
        have : RdC h8 (some (nw h7)) [.int .u8 (iConv .u8 (iSub .i64 (tm T j) (lastT T j))), .int .u8 (iConv .u8 (iShr .i64 (iSub .i64 (tm T j) (lastT T j)) (8 : Int)))] := RdC.alc h7 _ _
        rw [g3, show iShr .i64 (v : Int) (8 : Int) = ((v / 2 ^ 8 : Nat) : Int) from iShr_nat (k := .i64) (b := 8) (by simp [IntKind.bits]), bv_conv, bv_conv] at this
        rw [leB2, hsv]
        exact this
      have hbl : (head9 T ++ stepsB T j).length = 9 + 2 * j := by rw [List.length_append, head9_len, stepsB_len]
      refine x7.pushBytes s7 (alc_ext _ _ _) ry (by rw [hbl, leB_length]; omega) fun r h9 F9 x9 f9 k9 l9 => ?_
      refine ⟨m - 1, by omega, j + 1, F9, rows7, by rw [iAdd64 (by omega)]; push_cast; rfl, by omega, (e7.toKeep.trans k9).ext, by simp [lastT], ?_, by rw [q7, allPuts_take hj]⟩
      rw [stepsB_succ, ← List.append_assoc]; exact x9
  · obtain rfl : j = T.length := by omega
    rw [List.take_length] at q4
    have hrl : rows.length = (allPuts T).length := by have := congrArg List.length q4; simpa using this
    refine ⟨s, (hrow e4.toKeep).get rfl, ?_⟩
    refine ⟨fun body i q h' => ∃ (k : Nat) (F' : Nat → Bool), i = k ∧ q + k = T.length ∧ Ext h2 h' ∧ RB h2.size F' h' out rows body (head9 T ++ stepsB T T.length ++ cntsB T k), T.length, ⟨0, F, rfl, rfl, e4, by simpa [cntsB] using x4⟩, ?_⟩
    rintro _ body5 _ q h5 ⟨k, F5, rfl, hq, e5, x5⟩
    have s5 := e5.size
    have hbl : (head9 T ++ stepsB T T.length ++ cntsB T k).length = 9 + 2 * T.length + k := by rw [List.length_append, List.length_append, head9_len, stepsB_len, cntsB_len]
    refine IfB.dec (fun hlt2 => ?_) (fun hge2 => ?_)
    · have hk : k < T.length := by omega
      refine (t.ext (e02.trans e5)).ix k rfl hk fun a d c0 c1 hp => ⟨_, d, c0, c1, ?_⟩
      rw [pt_get hk] at hp
      have hpl := hp.len
      intro h6
      refine loc2 rfl rfl fun h7 e7 r7 => ⟨d, r7.get rfl, ?_⟩
      intro h8
      have ry : Rd 1 h8 (Sl.mk (some (nw h7)) 1 1) ([UInt8.ofNat (pt T k).length].map bv) := by
        refine ⟨rfl, Nat.le_refl _, ?_⟩
        have : RdC h8 (some (nw h7)) [.int .u8 (iConv .u8 (d.len : Int))] := RdC.alc h7 _ _
        rw [hpl, bv_conv] at this
        exact this
      refine x5.pushBytes s5 (e7.trans (alc_ext _ _ _)) ry (by rw [hbl]; simp; omega) fun r h9 F9 x9 f9 k9 l9 => ?_
      refine ⟨q - 1, by omega, k + 1, F9, by rw [iAdd64 (by omega)]; push_cast; rfl, by omega, (e5.toKeep.trans k9).ext, ?_⟩
      rw [cntsB_succ, ← List.append_assoc]; exact x9
    · obtain rfl : k = T.length := by omega
      have hbody : head9 T ++ stepsB T T.length ++ cntsB T T.length = bodyB T := rfl
      rw [hbody] at x5 hbl
      have hol := x5.o.len
      refine ⟨_, (hrow e5.toKeep).get0 rfl, ?_⟩
      refine (EncodeOk_spec x5.b.toRd (k := 2) (e := (epoch : Int)) (s := (num : Int)) (l := (out.len : Int)) ⟨by omega, by omega, by omega, by omega⟩ (by omega)).mono ?_
      rintro _ h6 ⟨e6, u, rfl, ou⟩
      refine ⟨u, _, rfl, ?_⟩
      intro h7
      refine x5.pushRow rfl s5 e6 ou (by omega) (by omega) fun r h8 F8 x8 f8 fr8 k8 l8 => ?_
      refine ⟨(e02.trans (e5.toKeep.trans k8).ext), .inr ⟨⟨ck, by omega, by omega⟩, r, _, rfl, x8.o.weak (by omega), ?_⟩⟩
      rw [List.map_append, q4]
      simp only [Int.toNat_natCast, List.map_cons, List.map_nil, encB]
      rw [hol, hrl]; rfl

end Go.Proofs.Ytehhkjgcklhfcaa
