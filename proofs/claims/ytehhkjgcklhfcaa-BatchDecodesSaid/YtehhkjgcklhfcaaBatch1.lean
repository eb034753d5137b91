/-
  valid.Order, batch.Blocks, batch.Check: contracts.
-/
import Derived.Test.YtehhkjgcklhfcaaBatch0
namespace Go.Proofs.Ytehhkjgcklhfcaa
set_option linter.unusedVariables false
set_option linter.unusedSimpArgs false

theorem Order_spec {B : Nat → Prop} {h : Hp} {s : Sl} {T : List TxD} (t : TxsR B h s T) (hT : T.length ≤ 1000000) (hP : ∀ j, (pt T j).length ≤ 1000000) :
    HCalls Try.prog fn_valid_Order #[.slice s.base s.len s.cap] h fun r h' => Ext h h' ∧ ∃ b, r = .bool b ∧ (b = true ↔ OrderP T) := by
  apply valid_Order_vc
  unfold vcvalid_Order
  have hl := t.len
  refine ⟨fun last i m h' => ∃ j : Nat, i = j ∧ m + j = T.length ∧ Ext h h' ∧ last = prevT T j ∧ ∀ k, k < j → prevT T k < tm T k ∧ tm T k ≤ 1099511627776 ∧ (pt T k).length ≠ 0 ∧ RisesP (pt T k), T.length, ⟨0, rfl, rfl, .refl h, rfl, fun k hk => by omega⟩, ?_⟩
  rintro _ _ _ m h1 ⟨j, rfl, hm, e1, rfl, hok⟩
  refine IfB.dec (fun hlt => ?_) (fun hge => ?_)
  · have hj : j < T.length := by omega
    refine (t.ext e1).ix j rfl hj fun a d c0 c1 hp => ⟨_, d, c0, c1, ?_⟩
    rw [tm_get hj]
    rw [pt_get hj] at hp
    have hpl := hp.len
    intro h2
    refine loc2 rfl rfl fun h3 e3 r3 => ?_
    refine ⟨_, r3.get0 rfl, IfB.dec (fun hle => ⟨e1.trans e3, _, rfl, ffIff fun ho => ?_⟩) (fun hle => ⟨_, r3.get0 rfl, IfB.dec (fun hbig => ⟨e1.trans e3, _, rfl, ffIff fun ho => ?_⟩) (fun hbig => ⟨_, r3.get rfl, IfB.eq (fun h0 => ⟨e1.trans e3, _, rfl, ffIff fun ho => ?_⟩) (fun h0 => ⟨_, r3.get0 rfl, ?_⟩)⟩)⟩)⟩
    · have := (ho j hj).1; omega
    · have := (ho j hj).2.1; omega
    · have := (ho j hj).2.2.1; omega
    refine ⟨fun i q h' => h' = h3 ∧ ∃ k : Nat, i = k ∧ q + k = (pt T j).length ∧ 1 ≤ k ∧ ∀ x, 0 < x → x < k → lb (pt T j) (x - 1) < lb (pt T j) x, (pt T j).length - 1, ⟨rfl, 1, rfl, by omega, by omega, fun x h1 h2 => by omega⟩, ?_⟩
    rintro _ _ q _ ⟨rfl, k, rfl, hq, hk1, hk⟩
    have hp3 := hp.ext e3
    refine ⟨_, r3.get rfl, IfB.dec (fun hlt2 => ?_) (fun hge2 => ?_)⟩
    · have hkk : k < (pt T j).length := by omega
      refine ⟨_, r3.get rfl, hp3.ix k rfl hkk fun a2 d2 c2 _ _ _ => ⟨_, c2, _, r3.get rfl, ?_⟩⟩
      rw [lb_get hkk]
      have hP' := hP j
      refine hp3.ix (k - 1) (by rw [iSub64 (by omega)]; omega) (by omega) fun a3 d3 c3 _ _ _ => ⟨_, c3, ?_⟩
      rw [lb_get (show k - 1 < (pt T j).length by omega)]
      refine IfB.dec (fun hbad => ⟨e1.trans e3, _, rfl, ffIff fun ho => ?_⟩) (fun hgood => ⟨q - 1, by omega, rfl, k + 1, by rw [iAdd64 (by omega)]; push_cast; rfl, by omega, by omega, fun x hx1 hx2 => ?_⟩)
      · have := (ho j hj).2.2.2 k (by omega) hkk; omega
      · by_cases e : x = k
        · subst e; omega
        · exact hk x hx1 (by omega)
    · refine ⟨m - 1, by omega, j + 1, by rw [iAdd64 (by omega)]; push_cast; rfl, by omega, e1.trans e3, by simp [prevT], fun k' hk' => ?_⟩
      by_cases e : k' = j
      · subst e; exact ⟨by omega, by omega, by omega, fun x hx1 hx2 => hk x hx1 (by omega)⟩
      · exact hok k' (by omega)
  · exact ⟨e1, _, rfl, ⟨fun _ j' hj' => hok j' (by omega), fun _ => rfl⟩⟩
theorem Blocks_spec {B : Nat → Prop} {h : Hp} {s : Sl} {T : List TxD} (num : Int) (t : TxsR B h s T) (hT : T.length ≤ 1000000) (hb : blocksN T ≤ 4611686018427387904) :
    HCalls Try.prog fn_batch_Blocks #[.agg #[.int .i64 num, .slice s.base s.len s.cap]] h fun r h' => Ext h h' ∧ r = .int .i64 (blocksN T : Int) := by
  apply batch_Blocks_vc
  unfold vcbatch_Blocks
  have hl := t.len
  intro h1
  have e1 : Ext h h1 := alc_ext _ _ _
  have r1 : Row h1 h.size [.int .i64 num, .slice s.base s.len s.cap] := Row.alc _ _ _
  refine ⟨s, r1.get rfl, ?_⟩
  refine ⟨fun n i m h' => ∃ j : Nat, i = j ∧ m + j = T.length ∧ Ext h h' ∧ n = (blocksN (T.take j) : Int), T.length, ⟨0, rfl, rfl, e1, rfl⟩, ?_⟩
  rintro _ _ _ m h2 ⟨j, rfl, hm, e2, rfl⟩
  refine IfB.dec (fun hlt => ?_) (fun hge => ?_)
  · have hj : j < T.length := by omega
    refine (t.ext e2).ix j rfl hj fun a d c0 c1 hp => ⟨_, d, c0, c1, ?_⟩
    rw [pt_get hj] at hp
    have hpl := hp.len
    intro h3
    refine loc2 rfl rfl fun h4 e4 r4 => ⟨_, r4.get rfl, m - 1, by omega, j + 1, by rw [iAdd64 (by omega)]; push_cast; rfl, by omega, e2.trans e4, ?_⟩
    have h1 := blocksN_take hj
    have h2 := blocksN_le T (j + 1)
    rw [iAdd64 (by omega), h1, hpl]; push_cast; rfl
  · obtain rfl : j = T.length := by omega
    rw [List.take_length]
    exact ⟨e2, rfl⟩
theorem put_ok_spec (p : Int) {h : Hp} {s : Sl} {l : List UInt8} (hs : s.len = l.length) : HCalls Try.prog fn_batch_put #[.agg #[.int .i64 p, .slice s.base s.len s.cap]] h fun r h' => Ext h h' ∧ ∃ b, r = .bool b ∧ (b = true ↔ PutOk (p, l)) := by
  apply batch_put_vc
  unfold vcbatch_put
  intro h1
  have e1 : Ext h h1 := alc_ext _ _ _
  have r1 : Row h1 h.size [.int .i64 p, .slice s.base s.len s.cap] := Row.alc _ _ _
  refine ⟨p, r1.get0 rfl, IfB.dec (fun hp => ⟨p, r1.get0 rfl, IfB.dec (fun hp2 => ⟨s, r1.get rfl, e1, _, rfl, ?_⟩) (fun hp2 => ⟨e1, _, rfl, ⟨fun h => (by cases h), fun h => by have := h.2.1; omega⟩⟩)⟩) (fun hp => ⟨e1, _, rfl, ⟨fun h => (by cases h), fun h => by have := h.1; omega⟩⟩)⟩
  rw [hs, beq_iff_eq]
  exact ⟨fun h => ⟨by omega, by omega, by show l.length = 40; omega⟩, fun h => by have : l.length = 40 := h.2.2; omega⟩
theorem putBad_spec {B : Nat → Prop} {h : Hp} {s : Sl} {P : List PutD} (t : PutsR B h s P) (hP : P.length ≤ 1000000) :
    HCalls Try.prog fn_slices_ContainsFunc_sscarpapiPutscarpapiPut #[.slice s.base s.len s.cap, .func (.func fn_batch_Check_1) #[] #[]] h fun r h' => Ext h h' ∧ ∃ b, r = .bool b ∧ (b = false ↔ ∀ p ∈ P, PutOk p) := by
  apply slices_ContainsFunc_sscarpapiPutscarpapiPut_vc
  unfold vcslices_ContainsFunc_sscarpapiPutscarpapiPut
  have hl := t.len
  have ix : HCalls Try.prog fn_slices_IndexFunc_sscarpapiPutscarpapiPut #[.slice s.base s.len s.cap, .func (.func fn_batch_Check_1) #[] #[]] h fun r h' => Ext h h' ∧ ∃ c : Int, r = .int .i64 c ∧ (¬ c ≥ 0 ↔ ∀ p ∈ P, PutOk p) := by
    apply slices_IndexFunc_sscarpapiPutscarpapiPut_vc
    unfold vcslices_IndexFunc_sscarpapiPutscarpapiPut
    refine ⟨fun i m h' => ∃ k : Nat, i = k ∧ m + k = P.length ∧ Ext h h' ∧ ∀ x (hx : x < P.length), x < k → PutOk P[x], P.length, ⟨0, rfl, rfl, .refl h, fun x _ h => by omega⟩, ?_⟩
    rintro _ _ m h1 ⟨k, rfl, hm, e1, hok⟩
    refine IfB.dec (fun hlt => ?_) (fun hge => ?_)
    · have hk : k < P.length := by omega
      refine (t.ext e1).ix k rfl hk fun a d c0 c1 rd _ => ⟨_, d, c0, c1, ?_⟩
      have f : HCalls Try.prog fn_batch_Check_1 #[.agg #[.int .i64 P[k].1, .slice d.base d.len d.cap]] h1 fun r h' => Ext h1 h' ∧ ∃ b, r = .bool b ∧ (b = false ↔ PutOk P[k]) := by
        apply batch_Check_1_vc
        unfold vcbatch_Check_1
        intro h2
        have e2 : Ext h1 h2 := alc_ext _ _ _
        have r2 : Row h2 h1.size [.int .i64 P[k].1, .slice d.base d.len d.cap] := Row.alc _ _ _
        refine r2.get2s ?_
        refine (put_ok_spec P[k].1 (l := P[k].2) (by have := rd.lenB; omega)).mono ?_
        rintro _ h3 ⟨e3, b, rfl, hb⟩
        exact ⟨b, rfl, e2.trans e3, _, rfl, by rw [← show (P[k].1, P[k].2) = P[k] from rfl, ← hb]; cases b <;> simp⟩
      refine f.mono ?_
      rintro _ h2 ⟨e2, b, rfl, hb⟩
      refine ⟨b, rfl, IfB.intro (fun hbt => ⟨e1.trans e2, _, rfl, ⟨fun h => by omega, fun hall => ?_⟩⟩) (fun hbf => ⟨m - 1, by omega, k + 1, by rw [iAdd64 (by omega)]; push_cast; rfl, by omega, e1.trans e2, fun x hx hxk => ?_⟩)⟩
      · have := hb.2 (hall _ (List.getElem_mem hk)); rw [hbt] at this; cases this
      · by_cases e : x = k
        · subst e; exact hb.1 hbf
        · exact hok x hx (by omega)
    · refine ⟨e1, _, rfl, ⟨fun _ p hp => ?_, fun _ => by omega⟩⟩
      obtain ⟨x, hx, rfl⟩ := List.mem_iff_getElem.1 hp
      exact hok x hx (by omega)
  refine ix.mono ?_
  rintro _ h1 ⟨e1, c, rfl, hc⟩
  exact ⟨_, rfl, e1, _, rfl, by rw [← hc]; simp⟩
theorem prev_le {T : List TxD} (ho : OrderP T) {j : Nat} (hj : j < T.length) : 0 < tm T j := by
  induction j with
  | zero => have := (ho 0 hj).1; simpa [prevT] using this
  | succ j ih => have := ih (by omega); have h2 := (ho (j + 1) hj).1; simp [prevT] at h2; omega
theorem Check_spec {B : Nat → Prop} {h : Hp} {s : Sl} {T : List TxD} (num : Int) (t : TxsR B h s T) (hP : ∀ j, (pt T j).length ≤ 1000000) :
    HCalls Try.prog fn_batch_Check #[.agg #[.int .i64 num, .slice s.base s.len s.cap]] h fun r h' => Ext h h' ∧ ∃ c : Int, r = .int .i64 c ∧ (c = 0 ↔ CheckP num T) ∧ (c = 0 ∨ c = 1) := by
  apply batch_Check_vc
  unfold vcbatch_Check
  have hl := t.len
  intro h1
  have e1 : Ext h h1 := alc_ext _ _ _
  have r1 : Row h1 h.size [.int .i64 num, .slice s.base s.len s.cap] := Row.alc _ _ _
  have no : ∀ {h' : Hp}, Ext h h' → ¬ CheckP num T → Ext h h' ∧ ∃ c : Int, Value.int .i64 (1 : Int) = .int .i64 c ∧ (c = 0 ↔ CheckP num T) ∧ (c = 0 ∨ c = 1) := fun e hn => ⟨e, 1, rfl, ⟨fun h => by omega, fun h => absurd h hn⟩, .inr rfl⟩
  refine ⟨num, r1.get0 rfl, IfB.dec (fun hh => no e1 fun k => by have := k.num; omega) (fun hn1 => ⟨num, r1.get0 rfl, IfB.dec (fun hh => no e1 fun k => by have := k.num; omega) (fun hn2 => ⟨s, r1.get rfl, IfB.eq (fun hh => no e1 fun k => by have := k.len; omega) (fun hl1 => ⟨s, r1.get rfl, IfB.dec (fun hh => no e1 fun k => by have := k.len; omega) (fun hl2 => ⟨s, r1.get rfl, ?_⟩)⟩)⟩)⟩)⟩
  refine (Order_spec (t.ext e1) (by omega) hP).mono ?_
  rintro _ h2 ⟨e2, b, rfl, hb⟩
  refine ⟨b, rfl, IfB.not (IfB.intro (fun hbt => ?_) (fun hbf => no (e1.trans e2) fun k => by have := hb.2 k.order; rw [hbf] at this; cases this))⟩
  have ho := hb.1 hbt
  have e02 := e1.trans e2
  refine (r1.ext e2).get2s ?_
  have hbn : blocksN T ≤ 4611686018427387904 := by
    have : ∀ (l : List TxD), (∀ x ∈ l, x.2.length ≤ 1000000) → (l.map (·.2.length)).sum ≤ l.length * 1000000 := by
      intro l
      induction l with
      | nil => intro _; simp
      | cons x r ih =>
        intro hx
        have h1 := hx x (by simp)
        have h2 := ih fun y hy => hx y (by simp [hy])
        simp only [List.map_cons, List.sum_cons, List.length_cons]; omega
    have h1 := this T fun x hx => by
      obtain ⟨j, hj, rfl⟩ := List.mem_iff_getElem.1 hx
      have := hP j
      rw [pt_get hj]; exact this
    unfold blocksN; omega
  refine (Blocks_spec num (t.ext e02) (by omega) hbn).mono ?_
  rintro _ h3 ⟨e3, rfl⟩
  have e03 := e02.trans e3
  refine ⟨_, rfl, IfB.dec (fun hh => no e03 fun k => by have := k.blocks; omega) (fun hblk => ⟨s, (r1.ext (e2.trans e3)).get rfl, ?_⟩)⟩
  refine ⟨fun i m h' => ∃ j : Nat, i = j ∧ m + j = T.length ∧ Ext h1 h' ∧ ∀ x, x < j → (0 < x → tm T x - tm T (x - 1) ≤ 65535) ∧ (pt T x).length ≤ 16 ∧ ∀ p ∈ pt T x, PutOk p, T.length, ⟨0, rfl, rfl, e2.trans e3, fun x hx => by omega⟩, ?_⟩
  rintro _ _ m h4 ⟨j, rfl, hm, e4, hok⟩
  have e04 := e1.trans e4
  refine IfB.dec (fun hlt => ?_) (fun hge => ?_)
  · have hj : j < T.length := by omega
    refine (t.ext e04).ix j rfl hj fun a d c0 c1 hp => ⟨_, d, c0, c1, ?_⟩
    rw [tm_get hj]
    rw [pt_get hj] at hp
    have hpl := hp.len
    intro h5
    refine loc2 rfl rfl fun h6 e6 r6 => ?_
    have e06 := e04.trans e6
    have rest : (0 < j → tm T j - tm T (j - 1) ≤ 65535) → ∃ c18 : Sl, hcell h6 ((nw h4).add 1) = some (.slice c18.base c18.len c18.cap) ∧
                  IfB (decide ((c18.len : Int) > (16 : Int))) (Ext h h6 ∧ ∃ c : Int, Value.int .i64 (1 : Int) = .int .i64 c ∧ (c = 0 ↔ CheckP num T) ∧ (c = 0 ∨ c = 1))
                  (∃ c19 : Sl, hcell h6 ((nw h4).add 1) = some (.slice c19.base c19.len c19.cap) ∧
                    HCalls Try.prog fn_slices_ContainsFunc_sscarpapiPutscarpapiPut #[.slice c19.base c19.len c19.cap, .func (.func fn_batch_Check_1) #[] #[]] h6 fun r3 vh7 =>
                    ∃ c20 : Bool, r3 = .bool c20 ∧
                    Ext h6 vh7 ∧
                    IfB c20 (Ext h vh7 ∧ ∃ c : Int, Value.int .i64 (1 : Int) = .int .i64 c ∧ (c = 0 ↔ CheckP num T) ∧ (c = 0 ∨ c = 1))
                    (∃ n2, n2 < m ∧ ∃ j_1 : Nat, iAdd .i64 (j : Int) 1 = (j_1 : Int) ∧ n2 + j_1 = T.length ∧ Ext h1 vh7 ∧ ∀ x, x < j_1 → (0 < x → tm T x - tm T (x - 1) ≤ 65535) ∧ (pt T x).length ≤ 16 ∧ ∀ p ∈ pt T x, PutOk p)) := by
      intro hstep
      refine ⟨d, r6.get rfl, IfB.dec (fun hh => no e06 fun k => by have := (k.each j hj).2.1; omega) (fun h16 => ⟨d, r6.get rfl, ?_⟩)⟩
      refine (putBad_spec (hp.ext e6) (by omega)).mono ?_
      rintro _ h7 ⟨e7, b, rfl, hb⟩
      refine ⟨b, rfl, e7, IfB.intro (fun hbt => no (e06.trans e7) fun k => by have := hb.2 (k.each j hj).2.2; rw [hbt] at this; cases this) (fun hbf => ⟨m - 1, by omega, j + 1, by rw [iAdd64 (by omega)]; push_cast; rfl, by omega, (e4.trans e6).trans e7, fun x hx => ?_⟩)⟩
      by_cases e : x = j
      · subst e; exact ⟨hstep, by omega, hb.1 hbf⟩
      · exact hok x (by omega)
    refine IfB.dec (fun hpos => ?_) (fun hzero => rest fun h => by omega)
    refine ⟨_, r6.get0 rfl, s, (r1.ext (e4.trans e6)).get rfl, (t.ext e06).ix (j - 1) (by rw [iSub64 (by omega)]; omega) (by omega) fun a2 d2 c2 _ _ => ⟨_, c2, ?_⟩⟩
    rw [tm_get (show j - 1 < T.length by omega)]
    have g1 := prev_le ho hj
    have g2 := prev_le ho (show j - 1 < T.length by omega)
    have g3 := (ho j hj).2.1
    have g4 := (ho (j - 1) (by omega)).2.1
    rw [iSub64 (by omega)]
    exact IfB.dec (fun hh => no e06 fun k => by have := (k.each j hj).1 (by omega); omega) (fun hstep => rest fun _ => by omega)
  · exact ⟨e04, 0, rfl, ⟨fun _ => ⟨by omega, by omega, ho, by omega, fun x hx => hok x (by omega)⟩, fun _ => rfl⟩, .inl rfl⟩

end Go.Proofs.Ytehhkjgcklhfcaa
