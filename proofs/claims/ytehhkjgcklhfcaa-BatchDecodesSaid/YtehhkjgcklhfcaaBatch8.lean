/-
  The document's own batches: Order, CheckBatch, EncodeBatch.
-/
import Derived.Test.YtehhkjgcklhfcaaBatch2
import Derived.Test.YtehhkjgcklhfcaaFrameRef
import Derived.Test.YtehhkjgcklhfcaaLab
namespace Go.Proofs.Ytehhkjgcklhfcaa
set_option linter.unusedVariables false
set_option linter.unusedSimpArgs false

theorem rOrder_spec {B : Nat → Prop} {h : Hp} {s : Sl} {T : List TxD} (t : TxsR B h s T) (hT : T.length ≤ 1000000) (hP : ∀ j, (pt T j).length ≤ 1000000) :
    HCalls Try.prog fn_scarpref11_Order #[.slice s.base s.len s.cap] h fun r h' => h = h' ∧ ∃ b, r = .bool b ∧ (b = true ↔ OrderP T) := by
  apply scarpref11_Order_vc
  unfold vcscarpref11_Order
  have hl := t.len
  refine ⟨fun last i m h' => ∃ j : Nat, i = j ∧ m + j = T.length ∧ h = h' ∧ last = prevT T j ∧ ∀ k, k < j → prevT T k < tm T k ∧ tm T k ≤ 1099511627776 ∧ (pt T k).length ≠ 0 ∧ RisesP (pt T k), T.length, ⟨0, rfl, rfl, rfl, rfl, fun k hk => by omega⟩, ?_⟩
  rintro _ _ _ m _ ⟨j, rfl, hm, rfl, rfl, hok⟩
  refine IfB.dec (fun hlt => ?_) (fun hge => ⟨rfl, _, rfl, ⟨fun _ j' hj' => hok j' (by omega), fun _ => rfl⟩⟩)
  have hj : j < T.length := by omega
  have hget : ∀ {K : Addr → Prop}, (∀ a d, hcell h (a.add ((j : Int).toNat * 2)) = some (.int .i64 (tm T j)) → hcell h ((a.add ((j : Int).toNat * 2)).add 1) = some (.slice d.base d.len d.cap) → PutsR B h d (pt T j) → K a) → ∃ a : Addr, s.base = some a ∧ 0 ≤ (j : Int) ∧ (j : Int) < (s.len : Int) ∧ K a := fun hK =>
    t.ix j rfl hj fun a d c0 c1 hp => by rw [tm_get hj] at c0; rw [pt_get hj] at hp; exact hK a d c0 c1 hp
  refine hget fun a d c0 c1 hp => ⟨_, c0, ?_⟩
  refine IfB.dec (fun hle => ⟨rfl, _, rfl, ffIff fun ho => by have := (ho j hj).1; omega⟩) (fun hle => hget fun a d c0 c1 hp => ⟨_, c0, ?_⟩)
  refine IfB.dec (fun hbig => ⟨rfl, _, rfl, ffIff fun ho => by have := (ho j hj).2.1; omega⟩) (fun hbig => hget fun a d c0 c1 hp => ⟨d, c1, ?_⟩)
  have hpl := hp.len
  refine IfB.eq (fun h0 => ⟨rfl, _, rfl, ffIff fun ho => by have := (ho j hj).2.2.1; omega⟩) (fun h0 => hget fun a d c0 c1 hp => ⟨_, c0, ?_⟩)
  have hP' := hP j
  refine ⟨fun i q h' => h = h' ∧ ∃ k : Nat, i = k ∧ q + k = (pt T j).length ∧ 1 ≤ k ∧ ∀ x, 0 < x → x < k → lb (pt T j) (x - 1) < lb (pt T j) x, (pt T j).length - 1, ⟨rfl, 1, rfl, by omega, by omega, fun x h1 h2 => by omega⟩, ?_⟩
  rintro _ _ q _ ⟨rfl, k, rfl, hq, hk1, hk⟩
  refine hget fun a d c0 c1 hp => ⟨d, c1, ?_⟩
  have hpl := hp.len
  refine IfB.dec (fun hlt2 => ?_) (fun hge2 => ?_)
  · have hkk : k < (pt T j).length := by omega
    refine hget fun a d c0 c1 hp => ⟨d, c1, hp.ix k rfl hkk fun a2 d2 c2 _ _ _ => ⟨_, c2, hget fun a d c0 c1 hp => ⟨d, c1, ?_⟩⟩⟩
    rw [lb_get hkk]
    refine hp.ix (k - 1) (by rw [iSub64 (by omega)]; omega) (by omega) fun a3 d3 c3 _ _ _ => ⟨_, c3, ?_⟩
    rw [lb_get (show k - 1 < (pt T j).length by omega)]
    refine IfB.dec (fun hbad => ⟨rfl, _, rfl, ffIff fun ho => ?_⟩) (fun hgood => ⟨q - 1, by omega, rfl, k + 1, by rw [iAdd64 (by omega)]; push_cast; rfl, by omega, by omega, fun x hx1 hx2 => ?_⟩)
    · have := (ho j hj).2.2.2 k (by omega) hkk; omega
    · by_cases e : x = k
      · subst e; omega
      · exact hk x hx1 (by omega)
  · refine ⟨m - 1, by omega, j + 1, by rw [iAdd64 (by omega)]; push_cast; rfl, by omega, rfl, by simp [prevT], fun k' hk' => ?_⟩
    by_cases e : k' = j
    · subst e; exact ⟨by omega, by omega, by omega, fun x hx1 hx2 => hk x hx1 (by omega)⟩
    · exact hok k' (by omega)
theorem rCheck_spec {B : Nat → Prop} {h : Hp} {s : Sl} {T : List TxD} (num : Int) (t : TxsR B h s T) (hP : ∀ j, (pt T j).length ≤ 1000000) :
    HCalls Try.prog fn_scarpref11_CheckBatch #[.agg #[.int .i64 num, .slice s.base s.len s.cap]] h fun r h' => Ext h h' ∧ ∃ c : Int, r = .int .i64 c ∧ (c = 0 ↔ CheckP num T) ∧ (c = 0 ∨ c = 1) := by
  apply scarpref11_CheckBatch_vc
  unfold vcscarpref11_CheckBatch
  have hl := t.len
  intro h1
  have e1 : Ext h h1 := alc_ext _ _ _
  have r1 : Row h1 h.size [.int .i64 num, .slice s.base s.len s.cap] := Row.alc _ _ _
  have no : ∀ {h' : Hp}, Ext h h' → ¬ CheckP num T → Ext h h' ∧ ∃ c : Int, Value.int .i64 (1 : Int) = .int .i64 c ∧ (c = 0 ↔ CheckP num T) ∧ (c = 0 ∨ c = 1) := fun e hn => ⟨e, 1, rfl, ⟨fun h => by omega, fun h => absurd h hn⟩, .inr rfl⟩
  refine ⟨num, r1.get0 rfl, IfB.dec (fun hh => no e1 fun k => by have := k.num; omega) (fun hn1 => ⟨num, r1.get0 rfl, IfB.dec (fun hh => no e1 fun k => by have := k.num; omega) (fun hn2 => ⟨s, r1.get rfl, IfB.eq (fun hh => no e1 fun k => by have := k.len; omega) (fun hl1 => ⟨s, r1.get rfl, IfB.dec (fun hh => no e1 fun k => by have := k.len; omega) (fun hl2 => ⟨s, r1.get rfl, ?_⟩)⟩)⟩)⟩)⟩
  refine (rOrder_spec (t.ext e1) (by omega) hP).mono ?_
  rintro _ _ ⟨rfl, b, rfl, hb⟩
  refine ⟨b, rfl, IfB.not (IfB.intro (fun hbt => ?_) (fun hbf => no e1 fun k => by have := hb.2 k.order; rw [hbf] at this; cases this))⟩
  have ho := hb.1 hbt
  refine ⟨fun n i m h' => ∃ j : Nat, i = j ∧ m + j = T.length ∧ Ext h1 h' ∧ n + 1 = (blocksN (T.take j) : Int) ∧ blocksN (T.take j) ≤ 1 + j * 16 ∧ ∀ x, x < j → (0 < x → tm T x - tm T (x - 1) ≤ 65535) ∧ (pt T x).length ≤ 16 ∧ ∀ p ∈ pt T x, PutOk p, T.length, ⟨0, rfl, rfl, .refl _, (by simp [blocksN]), (by simp [blocksN]), fun x hx => by omega⟩, ?_⟩
  rintro _ n _ m h4 ⟨j, rfl, hm, e4, hn, hbb, hok⟩
  have e04 := e1.trans e4
  refine ⟨s, (r1.ext e4).get rfl, IfB.dec (fun hlt => ?_) (fun hge => ?_)⟩
  · have hj : j < T.length := by omega
    refine ⟨s, (r1.ext e4).get rfl, (t.ext e04).ix j rfl hj fun a d c0 c1 hp => ⟨_, d, c0, c1, ?_⟩⟩
    rw [tm_get hj]
    rw [pt_get hj] at hp
    have hpl := hp.len
    intro h5
    refine loc2 rfl rfl fun h6 e6 r6 => ?_
    have e06 := e04.trans e6
    refine ⟨fun h' => h6 = h' ∧ (0 < j → tm T j - tm T (j - 1) ≤ 65535) ∧ (pt T j).length ≤ 16, ?_, ?_⟩
    · refine IfB.dec (fun hpos => ?_) (fun hzero => ⟨d, r6.get rfl, IfB.dec (fun hh => no e06 fun k => by have := (k.each j hj).2.1; omega) (fun h16 => ⟨rfl, fun h => by omega, by omega⟩)⟩)
      refine ⟨_, r6.get0 rfl, s, (r1.ext (e4.trans e6)).get rfl, (t.ext e06).ix (j - 1) (by rw [iSub64 (by omega)]; omega) (by omega) fun a2 d2 c2 _ _ => ⟨_, c2, ?_⟩⟩
      rw [tm_get (show j - 1 < T.length by omega)]
      have g1 := prev_le ho hj
      have g2 := prev_le ho (show j - 1 < T.length by omega)
      have g3 := (ho j hj).2.1
      have g4 := (ho (j - 1) (by omega)).2.1
      rw [iSub64 (by omega)]
      exact IfB.dec (fun hh => no e06 fun k => by have := (k.each j hj).1 (by omega); omega) (fun hstep => ⟨d, r6.get rfl, IfB.dec (fun hh => no e06 fun k => by have := (k.each j hj).2.1; omega) (fun h16 => ⟨rfl, fun h => by omega, by omega⟩)⟩)
    rintro _ _ ⟨rfl, hstep, h16⟩
    refine ⟨d, r6.get rfl, ?_⟩
    refine ⟨fun i q h' => h6 = h' ∧ ∃ k : Nat, i = k ∧ q + k = (pt T j).length ∧ ∀ x (hx : x < (pt T j).length), x < k → PutOk (pt T j)[x], (pt T j).length, ⟨rfl, 0, rfl, rfl, fun x _ h => by omega⟩, ?_⟩
    rintro _ _ q _ ⟨rfl, k, rfl, hq, hk⟩
    have hp6 := hp.ext e6
    refine ⟨d, r6.get rfl, IfB.dec (fun hlt2 => ?_) (fun hge2 => ?_)⟩
    · have hkk : k < (pt T j).length := by omega
      have hmem : (pt T j)[k] ∈ pt T j := List.getElem_mem hkk
      refine ⟨d, r6.get rfl, hp6.ix k rfl hkk fun a2 d2 c2 _ _ _ => ⟨_, c2, ?_⟩⟩
      refine IfB.dec (fun hh => no e06 fun ck => by have := ((ck.each j hj).2.2 _ hmem).1; omega) (fun h1 => ⟨d, r6.get rfl, hp6.ix k rfl hkk fun a2 d2 c2 _ _ _ => ⟨_, c2, ?_⟩⟩)
      refine IfB.dec (fun hh => no e06 fun ck => by have := ((ck.each j hj).2.2 _ hmem).2.1; omega) (fun h2 => ⟨d, r6.get rfl, hp6.ix k rfl hkk fun a2 d2 _ c2 rd _ => ⟨d2, c2, ?_⟩⟩)
      have hlb := rd.lenB
      refine IfB.ne (fun hh => no e06 fun ck => by have := ((ck.each j hj).2.2 _ hmem).2.2; omega) (fun h3 => ⟨q - 1, by omega, rfl, k + 1, by rw [iAdd64 (by omega)]; push_cast; rfl, by omega, fun x hx hxk => ?_⟩)
      by_cases e : x = k
      · subst e; exact ⟨by omega, by omega, by omega⟩
      · exact hk x hx (by omega)
    · have hbs := blocksN_take hj
      refine ⟨m - 1, by omega, j + 1, by rw [iAdd64 (by omega)]; push_cast; rfl, by omega, e4.trans e6, by rw [iAdd64 (by omega)]; omega, by omega, fun x hx => ?_⟩
      by_cases e : x = j
      · subst e
        refine ⟨hstep, h16, fun p hp' => ?_⟩
        obtain ⟨y, hy, rfl⟩ := List.mem_iff_getElem.1 hp'
        exact hk y hy (by omega)
      · exact hok x (by omega)
  · have hjT : j = T.length := by omega
    subst hjT
    rw [List.take_length] at hn
    exact IfB.dec (fun hh => no e04 fun k => by have := k.blocks; omega) (fun hle => ⟨e04, 0, rfl, ⟨fun _ => ⟨by omega, by omega, ho, by omega, hok⟩, fun _ => rfl⟩, .inl rfl⟩)
theorem rEncodeOk_spec {k e s l : Int} {h : Hp} {b : Sl} {bs : List UInt8} (hb : Rd 1 h b (bs.map bv)) (ok : okB k e s l) (hl : bs.length ≤ 40) :
    HCalls Try.prog fn_scarpref6_Encode #[.agg #[.int .i64 k, .int .i64 e, .int .i64 s, .int .i64 l, .slice b.base b.len b.cap]] h fun r h' => Ext h h' ∧ ∃ t : Sl, r = .tuple #[.slice t.base t.len t.cap, .int .i64 0] ∧ Own h.size 1 h' t ((encOf (preL k.toNat e.toNat s.toNat l.toNat bs)).map bv) := by
  refine (refEncode_spec k e s l hb).mono ?_
  rintro _ h' ⟨e1, ⟨hn, _⟩ | ⟨_, hl', _⟩ | ⟨_, _, t, rfl, ot, lt⟩⟩
  · exact absurd ok hn
  · omega
  · exact ⟨e1, t, rfl, ot⟩

theorem rEncode_spec {h : Hp} {s : Sl} {T : List TxD} (num epoch : Int) (t : TxsR (· < h.size) h s T) (hP : ∀ j, (pt T j).length ≤ 1000000) :
    HCalls Try.prog fn_scarpref11_EncodeBatch #[.agg #[.int .i64 num, .slice s.base s.len s.cap], .int .i64 epoch] h (EncBR h num epoch T) := by
  apply scarpref11_EncodeBatch_vc
  unfold vcscarpref11_EncodeBatch
  have hl := t.len
  intro h1
  have e1 : Ext h h1 := alc_ext _ _ _
  have r1 : Row h1 h.size [.int .i64 num, .slice s.base s.len s.cap] := Row.alc _ _ _
  have s1 : h1.size = h.size + 1 := size_alc _ _ _
  refine r1.get2s ?_
  refine (rCheck_spec num (t.ext e1) hP).mono ?_
  rintro _ h2 ⟨e2, c, rfl, hc, hc01⟩
  have e02 := e1.trans e2
  refine ⟨_, rfl, IfB.ne (fun hne => ⟨e02, .inl ⟨fun k => hne (hc.2 k.1), rfl⟩⟩) (fun h0 => IfB.dec (fun hneg => ⟨e02, .inl ⟨fun k => by omega, rfl⟩⟩) (fun hneg => IfB.dec (fun hbig => ⟨e02, .inl ⟨fun k => by omega, rfl⟩⟩) (fun hbig => ?_)))⟩
  have ck := hc.1 h0
  have hT1 := ck.len
  have hnum := ck.num
  obtain ⟨num, rfl⟩ : ∃ k : Nat, num = k := ⟨num.toNat, by omega⟩
  obtain ⟨epoch, rfl⟩ : ∃ k : Nat, epoch = k := ⟨epoch.toNat, by omega⟩
  have r2 := r1.ext e2
  have ht0 : 0 < tm T 0 := prev_le ck.order (by omega)
  have ht0' := (ck.order 0 (by omega)).2.1
  refine ⟨s, r2.get rfl, ?_⟩
  refine (t.ext e02).ix 0 rfl (by omega) fun a d c0 _ _ => ⟨_, c0, ?_⟩
  rw [tm_get (show 0 < T.length by omega)]
  have cv : ∀ z : Int, 0 ≤ z → z ≤ 1099511627776 → iConv .u64 z = ((z.toNat : Nat) : Int) := by
    intro z h1 h2
    obtain ⟨v, hv⟩ : ∃ v : Nat, z = v := ⟨z.toNat, by omega⟩
    rw [hv, iConv_nat u64s, Nat.mod_eq_of_lt (by simp only [IntKind.bits]; omega), Int.toNat_natCast]
  rw [cv _ (by omega) (by omega)]
  have s2 := e2.size
  have hrow : ∀ {h' : Hp}, Ext h2 h' → Row h' h.size [.int .i64 (num : Int), .slice s.base s.len s.cap] := fun k => r2.ext k
  refine (refPut_spec _ 8 (by omega) h2).mono ?_
  rintro _ h3 ⟨u, rfl, ou, lu, e3⟩
  refine ⟨u, rfl, s, (hrow e3).get rfl, ?_⟩
  intro h4
  rw [leB_length] at lu
  have hb : Value.int .u8 (iConv .u8 (s.len : Int)) = bv (UInt8.ofNat T.length) := by rw [hl, bv_conv]
  refine AppC_new (lo := h2.size) (l := (leB 8 (tm T 0).toNat).map bv) (news := [.int .u8 (iConv .u8 (s.len : Int))]) (n := 1) rfl ou e3.size rfl (by simp [cellOk]) (by omega) (by omega) fun body h5 o5 l5 k5 _ => ?_
  have e25 : Ext h2 h5 := (e3.toKeep.trans k5).ext
  rw [hb] at o5
  refine ⟨fun body i m h' => ∃ j : Nat, i = j ∧ m + j = T.length ∧ Ext h2 h' ∧ Own h2.size 1 h' body ((head9 T ++ stepsB T j).map bv), T.length, ⟨0, rfl, rfl, e25, by simpa [head9, stepsB] using o5⟩, ?_⟩
  rintro _ body _ m h6 ⟨j, rfl, hm, e6, o6⟩
  have s6 := e6.size
  refine ⟨s, (hrow e6).get rfl, IfB.dec (fun hlt => ?_) (fun hge => ?_)⟩
  · have hj : j < T.length := by omega
    have hstep := lastT_step ck hj
    refine ⟨fun d h' => h6 = h' ∧ d = (stepN T j : Int), ?_, ?_⟩
    · refine IfB.dec (fun hpos => ?_) (fun hz => ⟨rfl, ?_⟩)
      · refine ⟨s, (hrow e6).get rfl, (t.ext (e02.trans e6)).ix j rfl hj fun a d c0 _ _ => ⟨_, c0, s, (hrow e6).get rfl, (t.ext (e02.trans e6)).ix (j - 1) (by rw [iSub64 (by omega)]; omega) (by omega) fun a d c0 _ _ => ⟨_, c0, rfl, ?_⟩⟩⟩
        rw [tm_get hj, tm_get (show j - 1 < T.length by omega)]
        have g1 := prev_le ck.order hj
        have g2 := prev_le ck.order (show j - 1 < T.length by omega)
        have g3 := (ck.order j hj).2.1
        have g4 := (ck.order (j - 1) (by omega)).2.1
        have hla : lastT T j = tm T (j - 1) := by unfold lastT; rw [if_neg (by omega)]
        rw [hla] at hstep
        rw [iSub64 (by omega)]
        unfold stepN
        rw [hla]; omega
      · have : j = 0 := by omega
        subst this
        simp [stepN, lastT]
    · rintro _ _ _ ⟨rfl, rfl⟩
      have hs16 : stepN T j ≤ 65535 := by unfold stepN; omega
      rw [cv _ (by omega) (by omega), Int.toNat_natCast]
      refine (refPut_spec _ 2 (by omega) h6).mono ?_
      rintro _ h7 ⟨v, rfl, ov, lv, e7⟩
      refine ⟨v, rfl, ?_⟩
      have lb := o6.toRd.lenB
      rw [List.length_append, head9_len, stepsB_len] at lb
      rw [leB_length] at lv
      have s7 := e7.size
      refine AppC_own5 (news := (leB 2 (stepN T j)).map bv) rfl (o6.ext e7) (by omega) (by rw [List.length_map, leB_length]; omega) ov.rd (cellOk_bv _) (by omega) (by omega) fun r h8 o8 l8 k8 _ _ => ?_
      rw [← List.map_append, List.append_assoc, ← stepsB_succ] at o8
      exact ⟨m - 1, by omega, j + 1, by rw [iAdd64 (by omega)]; push_cast; rfl, by omega, ((e6.trans e7).toKeep.trans (k8.le (by omega))).ext, o8⟩
  obtain rfl : j = T.length := by omega
  have hall := allPuts_len T
  have hblk := ck.blocks
  refine ⟨fun out body i m h' => ∃ (j : Nat) (F : Nat → Bool) (rows : List (Sl × List UInt8)), i = j ∧ m + j = T.length ∧ Ext h2 h' ∧ RB h2.size F h' out rows body (head9 T ++ stepsB T T.length ++ cntsB T j) ∧ rows.map (·.2) = (allPuts (T.take j)).map (putB epoch num), T.length,
    ⟨0, fun _ => false, [], rfl, rfl, e6, ⟨OwnRows.nil _ _, ⟨fun a ha => (by cases ha), fun p hp => by simp at hp⟩, by simpa [cntsB] using o6, fun _ _ => rfl⟩, rfl⟩, ?_⟩
  rintro _ out body4 _ m h7 ⟨j, F, rows, rfl, hm, e7, x7, q7⟩
  have s7 := e7.size
  have hbl : (head9 T ++ stepsB T T.length ++ cntsB T j).length = 9 + 2 * T.length + j := by rw [List.length_append, List.length_append, head9_len, stepsB_len, cntsB_len]
  have hrl : rows.length = (allPuts (T.take j)).length := by have := congrArg List.length q7; simpa using this
  refine ⟨s, (hrow e7).get rfl, IfB.dec (fun hlt => ?_) (fun hge => ?_)⟩
  · have hj : j < T.length := by omega
    have hget : ∀ {h' : Hp} {K : Addr → Prop}, Ext h2 h' → (∀ a d, hcell h' ((a.add ((j : Int).toNat * 2)).add 1) = some (.slice d.base d.len d.cap) → PutsR (· < h.size) h' d (pt T j) → K a) → ∃ a : Addr, s.base = some a ∧ 0 ≤ (j : Int) ∧ (j : Int) < (s.len : Int) ∧ K a := fun e' hK =>
      (t.ext (e02.trans e')).ix j rfl hj fun a d c0 c1 hp => by rw [pt_get hj] at hp; exact hK a d c1 hp
    refine ⟨s, (hrow e7).get rfl, hget e7 fun a d c1 hp => ⟨d, c1, ?_⟩⟩
    have hpl := hp.len
    intro h8
    have hb8 : Value.int .u8 (iConv .u8 (d.len : Int)) = bv (UInt8.ofNat (pt T j).length) := by rw [hpl, bv_conv]
    have ry : Rd 1 h8 (Sl.mk (some (nw h7)) 1 1) ([UInt8.ofNat (pt T j).length].map bv) := by
      refine ⟨rfl, Nat.le_refl _, ?_⟩
      have : RdC h8 (some (nw h7)) [.int .u8 (iConv .u8 (d.len : Int))] := RdC.alc h7 _ _
      rw [hb8] at this
      exact this
    refine x7.pushBytes s7 (alc_ext _ _ _) ry (by rw [hbl]; simp; omega) fun r h9 F9 x9 f9 k9 l9 => ?_
    rw [List.append_assoc, ← cntsB_succ] at x9
    have e9 : Ext h2 h9 := (e7.toKeep.trans k9).ext
    have hjle : (allPuts (T.take (j + 1))).length ≤ (allPuts T).length := by
      have h1 := allPuts_len (T.take (j + 1)); have h2 := blocksN_le T (j + 1); omega
    rw [allPuts_take hj, List.length_append] at hjle
    refine ⟨fun out i q h' => ∃ (k : Nat) (F' : Nat → Bool) (rows' : List (Sl × List UInt8)), i = k ∧ q + k = (pt T j).length ∧ Ext h2 h' ∧ RB h2.size F' h' out rows' r (head9 T ++ stepsB T T.length ++ cntsB T (j + 1)) ∧ rows'.map (·.2) = (allPuts (T.take j) ++ (pt T j).take k).map (putB epoch num), (pt T j).length,
      ⟨0, F9, rows, rfl, rfl, e9, x9, by simpa using q7⟩, ?_⟩
    rintro _ out7 _ q h10 ⟨k, F7, rows7, rfl, hq, e10, x10, q10⟩
    have s10 := e10.size
    refine ⟨s, (hrow e10).get rfl, hget e10 fun a d c1 hp => ⟨d, c1, ?_⟩⟩
    have hpl := hp.len
    refine IfB.dec (fun hlt2 => ?_) (fun hge2 => ?_)
    · have hk : k < (pt T j).length := by omega
      have hmem : (pt T j)[k] ∈ pt T j := List.getElem_mem hk
      obtain ⟨p1, p2, p3⟩ := (ck.each j hj).2.2 _ hmem
      refine ⟨_, (hrow e10).get0 rfl, s, (hrow e10).get rfl, hget e10 fun a d c1 hp => ⟨d, c1, hp.ix k rfl hk fun a2 d2 c2 _ _ _ => ⟨_, c2, s, (hrow e10).get rfl, hget e10 fun a d c1 hp => ⟨d, c1, hp.ix k rfl hk fun a2 d2 _ c2 rd2 _ => ⟨d2, c2, ?_⟩⟩⟩⟩⟩
      refine (rEncodeOk_spec rd2 (k := 1) (e := (epoch : Int)) (s := (num : Int)) (l := (pt T j)[k].1) ⟨by omega, by omega, by omega, by omega⟩ (by omega)).mono ?_
      rintro _ h11 ⟨e11, u, rfl, ou⟩
      refine ⟨u, _, rfl, e11, ?_⟩
      intro h12
      have hrl7 : rows7.length = (allPuts (T.take j)).length + k := by have := congrArg List.length q10; simp at this; omega
      refine x10.pushRow rfl s10 e11 ou (by omega) (by omega) fun r h13 F13 x13 f13 fr13 k13 l13 => ?_
      refine ⟨q - 1, by omega, k + 1, F13, _, by rw [iAdd64 (by omega)]; push_cast; rfl, by omega, (e10.toKeep.trans k13).ext, x13, ?_⟩
      rw [List.map_append, q10, List.take_succ_eq_append_getElem hk, ← List.append_assoc, List.map_append (l₁ := allPuts (T.take j) ++ (pt T j).take k)]
      simp only [Int.toNat_natCast, List.map_cons, List.map_nil, putB]
      rfl
    · have hk : k = (pt T j).length := by omega
      subst hk
      rw [List.take_length] at q10
      exact ⟨m - 1, by omega, j + 1, F7, rows7, by rw [iAdd64 (by omega)]; push_cast; rfl, by omega, e10, x10, by rw [q10, allPuts_take hj]⟩
  · obtain rfl : j = T.length := by omega
    rw [List.take_length] at q7 hrl
    have hbody : head9 T ++ stepsB T T.length ++ cntsB T T.length = bodyB T := rfl
    rw [hbody] at x7 hbl
    have hol := x7.o.len
    refine ⟨_, (hrow e7).get0 rfl, ?_⟩
    refine (rEncodeOk_spec x7.b.toRd (k := 2) (e := (epoch : Int)) (s := (num : Int)) (l := (out.len : Int)) ⟨by omega, by omega, by omega, by omega⟩ (by omega)).mono ?_
    rintro _ h8 ⟨e8, u, rfl, ou⟩
    refine ⟨u, _, rfl, ?_⟩
    intro h9
    refine x7.pushRow rfl s7 e8 ou (by omega) (by omega) fun r h10 F8 x8 f8 fr8 k8 l8 => ?_
    refine ⟨(e02.trans (e7.toKeep.trans k8).ext), .inr ⟨⟨ck, by omega, by omega⟩, r, _, rfl, x8.o.weak (by omega), ?_⟩⟩
    rw [List.map_append, q7]
    simp only [Int.toNat_natCast, List.map_cons, List.map_nil, encB]
    rw [hol, hrl]; rfl

end Go.Proofs.Ytehhkjgcklhfcaa
