/-
  What the laws of chapter 17 ask besides: sums, sameness.
-/
import Derived.Test.YtehhkjgcklhfcaaBatch6
import Derived.Test.YtehhkjgcklhfcaaStr
import Derived.Test.YtehhkjgcklhfcaaBlockB
namespace Go.Proofs.Ytehhkjgcklhfcaa
set_option linter.unusedVariables false
set_option linter.unusedSimpArgs false

def sumC (n x : Int) : Int := if x > 1099511627776 - n then 1099511627776 else n + x
theorem sumC_b {n x : Int} (hn : 0 ≤ n ∧ n ≤ 1099511627776) (hx : 0 ≤ x) : 0 ≤ sumC n x ∧ sumC n x ≤ 1099511627776 ∧ (sumC n x ≤ 1000000 → sumC n x = n + x) := by
  unfold sumC; split <;> omega
theorem Sum1_spec {h : Hp} {n x : Int} {b : Addr} (hn : 0 ≤ n ∧ n ≤ 1099511627776) (hx : 0 ≤ x ∧ x ≤ 9223372036854775807) (hc : hcell h (b.add 0) = some (.int .i64 x)) :
    HCalls Try.prog fn_scarpalike_Sum #[.int .i64 n, .slice (some b) 1 1] h fun r h' => r = .int .i64 (sumC n x) ∧ h' = h := by
  apply scarpalike_Sum_vc (more := ⟨some b, 1, 1⟩)
  unfold vcscarpalike_Sum
  refine ⟨fun m i q h' => h' = h ∧ (i = 0 ∧ m = n ∧ q = 1 ∨ i = 1 ∧ m = sumC n x ∧ q = 0), 1, ⟨rfl, .inl ⟨rfl, rfl, rfl⟩⟩, ?_⟩
  rintro _ _ _ q _ ⟨rfl, ⟨rfl, rfl, rfl⟩ | ⟨rfl, rfl, rfl⟩⟩
  · refine .yes rfl (.no (by simp; omega) ⟨b, rfl, by omega, by show (0 : Int) < ((1 : Nat) : Int); decide, x, hc, ?_⟩)
    rw [iSub64 (by omega)]
    refine IfB.dec (fun hbig => ⟨by unfold sumC; rw [if_pos hbig], rfl⟩) (fun hok => ⟨b, rfl, by omega, by show (0 : Int) < ((1 : Nat) : Int); decide, x, hc, 0, by omega, rfl, .inr ⟨by decide, ?_, rfl⟩⟩)
    unfold sumC
    rw [if_neg hok, iAdd64 (by omega)]
  · exact .no (by show decide ((1 : Int) < ((1 : Nat) : Int)) = false; decide) ⟨rfl, rfl⟩
theorem alc1 (h : Hp) (v : Value) (t : Nat) : hcell (alc h [v] t) ((nw h).add 0) = some v := alc_get h [v] t rfl
theorem Puts_spec {B : Nat → Prop} {h : Hp} {s : Sl} {P : List PutD} (p : PutsR B h s P) (hs : s.len ≤ maxLen) (hd : ∀ x ∈ P, x.2.length ≤ maxLen) {top : Int} (ht : 0 ≤ top ∧ top ≤ 1000000) :
    HCalls Try.prog fn_scarpalike_Puts #[.slice s.base s.len s.cap, .int .i64 top] h fun r h' => Ext h h' ∧ ∃ n : Int, r = .int .i64 n ∧ 0 ≤ n ∧ n ≤ 1099511627776 ∧ (n ≤ top → (P.length : Int) ≤ top ∧ ∀ x ∈ P, (x.2.length : Int) ≤ top) := by
  apply scarpalike_Puts_vc
  unfold vcscarpalike_Puts
  have hl := p.len
  simp only [maxLen] at hs hd
  intro h1
  have e1 : Ext h h1 := alc_ext _ _ _
  refine (Sum1_spec (n := 0) (x := (s.len : Int)) (b := nw h) (by omega) (by omega) (alc1 _ _ _)).mono ?_
  rintro _ _ ⟨rfl, rfl⟩
  refine ⟨_, rfl, ?_⟩
  have b0 := sumC_b (n := 0) (x := (s.len : Int)) (by omega) (by omega)
  refine ⟨fun n i m h' => Ext h h' ∧ ∃ k : Nat, i = k ∧ m + k = P.length ∧ 0 ≤ n ∧ n ≤ 1099511627776 ∧ (n ≤ top → (P.length : Int) ≤ top ∧ ∀ j (hj : j < P.length), j < k → (P[j].2.length : Int) ≤ top), P.length, ⟨e1, 0, rfl, rfl, b0.1, b0.2.1, fun h => ⟨by have := b0.2.2 (by omega); omega, fun j _ hj => by omega⟩⟩, ?_⟩
  rintro _ n _ m h2 ⟨e2, k, rfl, hm, hn0, hn1, hn⟩
  have fin : n > top ∨ k = P.length → Ext h h2 ∧ ∃ n_1 : Int, Value.int .i64 n = .int .i64 n_1 ∧ 0 ≤ n_1 ∧ n_1 ≤ 1099511627776 ∧ (n_1 ≤ top → (P.length : Int) ≤ top ∧ ∀ x ∈ P, (x.2.length : Int) ≤ top) := fun hh => ⟨e2, n, rfl, hn0, hn1, fun hle => ⟨(hn hle).1, fun x hx => by
    obtain ⟨j, hj, rfl⟩ := List.mem_iff_getElem.1 hx
    exact (hn hle).2 j hj (by omega)⟩⟩
  refine IfB.dec (fun hlt => IfB.dec (fun hle => ?_) (fun hgt => fin (.inl (by omega)))) (fun hge => fin (.inr (by omega)))
  have hk : k < P.length := by omega
  refine (p.ext e2).ix k rfl hk fun a d c0 c1 rd _ => ⟨d, c1, ?_⟩
  have hdl := rd.lenB
  have hd' := hd P[k] (List.getElem_mem hk)
  intro h3
  refine (Sum1_spec (n := n) (x := (d.len : Int)) (b := nw h2) (by omega) (by omega) (alc1 _ _ _)).mono ?_
  rintro _ _ ⟨rfl, rfl⟩
  have b1 := sumC_b (n := n) (x := (d.len : Int)) (by omega) (by omega)
  refine ⟨_, rfl, m - 1, by omega, e2.trans (alc_ext _ _ _), k + 1, by rw [iAdd64 (by omega)]; push_cast; rfl, by omega, b1.1, b1.2.1, fun hle2 => ⟨(hn hle).1, fun j hj hjk => ?_⟩⟩
  by_cases e : j = k
  · subst e; have := b1.2.2 (by omega); omega
  · exact (hn hle).2 j hj (by omega)
theorem Txs_spec {B : Nat → Prop} {h : Hp} {s : Sl} {T : List TxD} (p : TxsR B h s T) (hs : s.len ≤ maxLen) (hd : ∀ x ∈ T, x.2.length ≤ maxLen ∧ ∀ y ∈ x.2, y.2.length ≤ maxLen) {top : Int} (ht : 0 ≤ top ∧ top ≤ 1000000) :
    HCalls Try.prog fn_scarpalike_Txs #[.slice s.base s.len s.cap, .int .i64 top] h fun r h' => Ext h h' ∧ ∃ n : Int, r = .int .i64 n ∧ 0 ≤ n ∧ n ≤ 1099511627776 ∧ (n ≤ top → (T.length : Int) ≤ top ∧ ∀ x ∈ T, (x.2.length : Int) ≤ top ∧ ∀ y ∈ x.2, (y.2.length : Int) ≤ top) := by
  apply scarpalike_Txs_vc
  unfold vcscarpalike_Txs
  have hl := p.len
  have hs' := hs
  simp only [maxLen] at hs
  intro h1
  have e1 : Ext h h1 := alc_ext _ _ _
  refine (Sum1_spec (n := 0) (x := (s.len : Int)) (b := nw h) (by omega) (by omega) (alc1 _ _ _)).mono ?_
  rintro _ _ ⟨rfl, rfl⟩
  refine ⟨_, rfl, ?_⟩
  have b0 := sumC_b (n := 0) (x := (s.len : Int)) (by omega) (by omega)
  refine ⟨fun n i m h' => Ext h h' ∧ ∃ k : Nat, i = k ∧ m + k = T.length ∧ 0 ≤ n ∧ n ≤ 1099511627776 ∧ (n ≤ top → (T.length : Int) ≤ top ∧ ∀ j (hj : j < T.length), j < k → (T[j].2.length : Int) ≤ top ∧ ∀ y ∈ T[j].2, (y.2.length : Int) ≤ top), T.length, ⟨e1, 0, rfl, rfl, b0.1, b0.2.1, fun h => ⟨by have := b0.2.2 (by omega); omega, fun j _ hj => by omega⟩⟩, ?_⟩
  rintro _ n _ m h2 ⟨e2, k, rfl, hm, hn0, hn1, hn⟩
  have fin : n > top ∨ k = T.length → Ext h h2 ∧ ∃ n_1 : Int, Value.int .i64 n = .int .i64 n_1 ∧ 0 ≤ n_1 ∧ n_1 ≤ 1099511627776 ∧ (n_1 ≤ top → (T.length : Int) ≤ top ∧ ∀ x ∈ T, (x.2.length : Int) ≤ top ∧ ∀ y ∈ x.2, (y.2.length : Int) ≤ top) := fun hh => ⟨e2, n, rfl, hn0, hn1, fun hle => ⟨(hn hle).1, fun x hx => by
    obtain ⟨j, hj, rfl⟩ := List.mem_iff_getElem.1 hx
    exact (hn hle).2 j hj (by omega)⟩⟩
  refine IfB.dec (fun hlt => IfB.dec (fun hle => ?_) (fun hgt => fin (.inl (by omega)))) (fun hge => fin (.inr (by omega)))
  have hk : k < T.length := by omega
  refine (p.ext e2).ix k rfl hk fun a d c0 c1 pr => ⟨d, c1, ?_⟩
  have hd' := hd T[k] (List.getElem_mem hk)
  refine (Puts_spec pr (by rw [pr.len]; exact hd'.1) hd'.2 ht).mono ?_
  rintro _ h3 ⟨e3, q, rfl, hq0, hq1, hq⟩
  refine ⟨_, rfl, ?_⟩
  intro h4
  refine (Sum1_spec (n := n) (x := q) (b := nw h3) (by omega) (by omega) (alc1 _ _ _)).mono ?_
  rintro _ _ ⟨rfl, rfl⟩
  have b1 := sumC_b (n := n) (x := q) (by omega) (by omega)
  refine ⟨_, rfl, m - 1, by omega, (e2.trans e3).trans (alc_ext _ _ _), k + 1, by rw [iAdd64 (by omega)]; push_cast; rfl, by omega, b1.1, b1.2.1, fun hle2 => ⟨(hn hle).1, fun j hj hjk => ?_⟩⟩
  by_cases e : j = k
  · subst e; have := b1.2.2 (by omega); exact hq (by omega)
  · exact (hn hle).2 j hj (by omega)
/-- what is looked at. -/
structure SmallT (T : List TxD) : Prop where
  len : T.length ≤ 100
  each : ∀ x ∈ T, x.2.length ≤ 10000 ∧ ∀ y ∈ x.2, y.2.length ≤ 10000
theorem SmallT.pt {T : List TxD} (s : SmallT T) (j : Nat) : (pt T j).length ≤ 1000000 := by
  by_cases hj : j < T.length
  · have := (s.each T[j] (List.getElem_mem hj)).1; rw [pt_get hj] at this; omega
  · unfold Go.Proofs.Ytehhkjgcklhfcaa.pt; rw [List.getD_eq_getElem?_getD, List.getElem?_eq_none (by omega)]; simp
theorem small_spec {B : Nat → Prop} {h : Hp} {s : Sl} {T : List TxD} (p : TxsR B h s T) (hs : s.len ≤ maxLen) (hd : ∀ x ∈ T, x.2.length ≤ maxLen ∧ ∀ y ∈ x.2, y.2.length ≤ maxLen) :
    HCalls Try.prog fn_scarplaw17_small #[.slice s.base s.len s.cap] h fun r h' => Ext h h' ∧ ∃ b, r = .bool b ∧ (b = true → SmallT T) := by
  apply scarplaw17_small_vc
  unfold vcscarplaw17_small
  have hl := p.len
  refine (Txs_spec p hs hd (top := 10000) (by omega)).mono ?_
  rintro _ h1 ⟨e1, n, rfl, h0, h2, hn⟩
  refine ⟨_, rfl, IfB.dec (fun hle => ⟨e1, _, rfl, fun hb => ?_⟩) (fun _ => ⟨e1, false, rfl, fun h => by cases h⟩)⟩
  have hb := of_decide_eq_true hb
  obtain ⟨g1, g2⟩ := hn hle
  exact ⟨by omega, fun x hx => ⟨by have := (g2 x hx).1; omega, fun y hy => by have := (g2 x hx).2 y hy; omega⟩⟩
theorem Total_spec {h : Hp} {s : Sl} {rows : List (Sl × List UInt8)} (w : RowsR h s rows) (hs : s.len ≤ maxLen) (hd : ∀ x ∈ rows, x.2.length ≤ maxLen) {top : Int} (ht : 0 ≤ top ∧ top ≤ 1000000) :
    HCalls Try.prog fn_scarpalike_Total #[.slice s.base s.len s.cap, .int .i64 top] h fun r h' => Ext h h' ∧ ∃ n : Int, r = .int .i64 n ∧ (n ≤ top → (rows.length : Int) ≤ top ∧ ∀ x ∈ rows, (x.2.length : Int) ≤ top) := by
  apply scarpalike_Total_vc
  unfold vcscarpalike_Total
  have hl := w.len
  simp only [maxLen] at hs hd
  intro h1
  have e1 : Ext h h1 := alc_ext _ _ _
  refine (Sum1_spec (n := 0) (x := (s.len : Int)) (b := nw h) (by omega) (by omega) (alc1 _ _ _)).mono ?_
  rintro _ _ ⟨rfl, rfl⟩
  refine ⟨_, rfl, ?_⟩
  have b0 := sumC_b (n := 0) (x := (s.len : Int)) (by omega) (by omega)
  refine ⟨fun n i m h' => Ext h h' ∧ ∃ k : Nat, i = k ∧ m + k = rows.length ∧ 0 ≤ n ∧ n ≤ 1099511627776 ∧ (n ≤ top → (rows.length : Int) ≤ top ∧ ∀ j (hj : j < rows.length), j < k → (rows[j].2.length : Int) ≤ top), rows.length, ⟨e1, 0, rfl, rfl, b0.1, b0.2.1, fun h => ⟨by have := b0.2.2 (by omega); omega, fun j _ hj => by omega⟩⟩, ?_⟩
  rintro _ n _ m h2 ⟨e2, k, rfl, hm, hn0, hn1, hn⟩
  have fin : n > top ∨ k = rows.length → Ext h h2 ∧ ∃ n_1 : Int, Value.int .i64 n = .int .i64 n_1 ∧ (n_1 ≤ top → (rows.length : Int) ≤ top ∧ ∀ x ∈ rows, (x.2.length : Int) ≤ top) := fun hh => ⟨e2, n, rfl, fun hle => ⟨(hn hle).1, fun x hx => by
    obtain ⟨j, hj, rfl⟩ := List.mem_iff_getElem.1 hx
    exact (hn hle).2 j hj (by omega)⟩⟩
  refine IfB.dec (fun hlt => IfB.dec (fun hle => ?_) (fun hgt => fin (.inl (by omega)))) (fun hge => fin (.inr (by omega)))
  have hk : k < rows.length := by omega
  have hmem : rows[k] ∈ rows := List.getElem_mem hk
  refine ixS (w.rd.ext e2) hl k rfl hk ?_
  have hdl := (w.each _ hmem).lenB
  have hd' := hd rows[k] hmem
  intro h3
  refine (Sum1_spec (n := n) (x := (rows[k].1.len : Int)) (b := nw h2) (by omega) (by omega) (alc1 _ _ _)).mono ?_
  rintro _ _ ⟨rfl, rfl⟩
  have b1 := sumC_b (n := n) (x := (rows[k].1.len : Int)) (by omega) (by omega)
  refine ⟨_, rfl, m - 1, by omega, e2.trans (alc_ext _ _ _), k + 1, by rw [iAdd64 (by omega)]; push_cast; rfl, by omega, b1.1, b1.2.1, fun hle2 => ⟨(hn hle).1, fun j hj hjk => ?_⟩⟩
  by_cases e : j = k
  · subst e; have := b1.2.2 (by omega); omega
  · exact (hn hle).2 j hj (by omega)
theorem Data_spec (k : Int) (h : Hp) : HCalls Try.prog fn_scarpalike_Data #[.int .i64 k] h (NewB h (blockL 40 k)) := by
  apply scarpalike_Data_vc
  unfold vcscarpalike_Data
  refine (Block_spec 40 k (by omega) h).mono ?_
  rintro _ h1 ⟨u, rfl, g⟩
  exact ⟨u, rfl, u, rfl, g⟩

theorem SamePuts_spec {B B' : Nat → Prop} {h : Hp} {s t : Sl} {P Q : List PutD} (p : PutsR B h s P) (q : PutsR B' h t Q) (hP : P.length ≤ 1000000000) :
    HCalls Try.prog fn_scarpref11_SamePuts #[.slice s.base s.len s.cap, .slice t.base t.len t.cap] h fun r h' => h' = h ∧ ∃ b, r = .bool b ∧ (b = true ↔ P = Q) := by
  apply scarpref11_SamePuts_vc
  unfold vcscarpref11_SamePuts
  have lp := p.len
  have lq := q.len
  refine IfB.ne (fun hne => ⟨rfl, _, rfl, ffIff fun e => hne (by subst e; omega)⟩) (fun heq => ?_)
  refine ⟨fun i m h' => h' = h ∧ ∃ k : Nat, i = k ∧ m + k = P.length ∧ P.take k = Q.take k, P.length, ⟨rfl, 0, rfl, rfl, rfl⟩, ?_⟩
  rintro _ _ m hh ⟨rfl, k, rfl, hm, hk⟩
  refine IfB.dec (fun hlt => ?_) (fun hge => ?_)
  · have hkp : k < P.length := by omega
    have hkq : k < Q.length := by omega
    refine p.ix k rfl hkp fun a1 d1 c1 c1' r1 _ => ⟨_, c1, q.ix k rfl hkq fun a2 d2 c2 c2' r2 _ => ⟨_, c2, ?_⟩⟩
    have no : P[k] ≠ Q[k] → ¬ P = Q := fun hne e => by subst e; exact hne rfl
    refine IfB.ne (fun hne => ?_) (fun he => ?_)
    · have := no fun e => hne (by rw [e])
      exact ⟨⟨rfl, _, rfl, ffIff this⟩, ⟨rfl, _, rfl, ffIff this⟩⟩
    refine p.ix k rfl hkp fun a3 d3 _ c3 r3 _ => ⟨d3, c3, q.ix k rfl hkq fun a4 d4 _ c4 r4 _ => ⟨d4, c4, ?_⟩⟩
    have nx : P[k].2 = Q[k].2 → ∃ n2, n2 < m ∧ hh = hh ∧ ∃ k_1 : Nat, iAdd .i64 (k : Int) 1 = (k_1 : Int) ∧ n2 + k_1 = P.length ∧ P.take k_1 = Q.take k_1 := fun he2 => ⟨m - 1, by omega, rfl, k + 1, by rw [iAdd64 (by omega)]; push_cast; rfl, by omega, by
      rw [List.take_succ_eq_append_getElem hkp, List.take_succ_eq_append_getElem hkq, hk]
      congr 2
      exact Prod.ext he he2⟩
    have ne : P[k].2 ≠ Q[k].2 → hh = hh ∧ ∃ b, Value.bool false = .bool b ∧ (b = true ↔ P = Q) := fun hne => ⟨rfl, _, rfl, ffIff (no fun e => hne (by rw [e]))⟩
    exact ⟨strNeE r3 r4 ne nx, strNe' r3 r4 ne nx⟩
  · obtain rfl : k = P.length := by omega
    rw [List.take_length, List.take_of_length_le (by omega)] at hk
    exact ⟨rfl, _, rfl, ttIff hk⟩
theorem SameBatch_spec {B B' : Nat → Prop} {h : Hp} {s t : Sl} {T U : List TxD} (n m : Int) (p : TxsR B h s T) (q : TxsR B' h t U) (hT : T.length ≤ 1000000000) (hP : ∀ j, (pt T j).length ≤ 1000000) :
    HCalls Try.prog fn_scarpref11_SameBatch #[.agg #[.int .i64 n, .slice s.base s.len s.cap], .agg #[.int .i64 m, .slice t.base t.len t.cap]] h fun r h' => Ext h h' ∧ ∃ b, r = .bool b ∧ (b = true ↔ n = m ∧ T = U) := by
  apply scarpref11_SameBatch_vc
  unfold vcscarpref11_SameBatch
  have lp := p.len
  have lq := q.len
  intro h1 h2
  have e1 : Ext h h1 := alc_ext _ _ _
  have e12 : Ext h1 h2 := alc_ext _ _ _
  have e2 := e1.trans e12
  have r1 : Row h2 h.size [.int .i64 n, .slice s.base s.len s.cap] := (Row.alc h _ _).ext e12
  have r2 : Row h2 h1.size [.int .i64 m, .slice t.base t.len t.cap] := Row.alc h1 _ _
  refine ⟨n, r1.get0 rfl, m, r2.get0 rfl, IfB.ne (fun hne => ⟨e2, _, rfl, ffIff fun e => hne e.1⟩) (fun hnm => ⟨s, r1.get rfl, t, r2.get rfl, IfB.ne (fun hne => ⟨e2, _, rfl, ffIff fun e => hne (by rw [lp, lq, e.2])⟩) (fun hl => ?_)⟩)⟩
  refine ⟨fun i q' h' => h' = h2 ∧ ∃ k : Nat, i = k ∧ q' + k = T.length ∧ T.take k = U.take k, T.length, ⟨rfl, 0, rfl, rfl, rfl⟩, ?_⟩
  rintro _ _ q' _ ⟨rfl, k, rfl, hm, hk⟩
  have p2 := p.ext e2
  have q2 := q.ext e2
  refine ⟨s, r1.get rfl, IfB.dec (fun hlt => ?_) (fun hge => ?_)⟩
  · have hkp : k < T.length := by omega
    have hkq : k < U.length := by omega
    have no : T[k] ≠ U[k] → ¬ (n = m ∧ T = U) := fun hne e => by
      apply hne
      have := e.2
      subst this; rfl
    refine ⟨s, r1.get rfl, p2.ix k rfl hkp fun a1 d1 c1 _ _ => ⟨_, c1, t, r2.get rfl, q2.ix k rfl hkq fun a2 d2 c2 _ _ => ⟨_, c2, IfB.ne (fun hne => ⟨e2, _, rfl, ffIff (no fun e => hne (by rw [e]))⟩) (fun he => ?_)⟩⟩⟩
    refine ⟨s, r1.get rfl, p2.ix k rfl hkp fun a3 d3 _ c3 pr => ⟨d3, c3, t, r2.get rfl, q2.ix k rfl hkq fun a4 d4 _ c4 qr => ⟨d4, c4, ?_⟩⟩⟩
    refine (SamePuts_spec pr qr (by rw [pt_get hkp]; have := hP k; omega)).mono ?_
    rintro _ _ ⟨rfl, b, rfl, hb⟩
    refine ⟨b, rfl, .refl _, IfB.not (IfB.intro (fun hbt => ⟨q' - 1, by omega, rfl, k + 1, by rw [iAdd64 (by omega)]; push_cast; rfl, by omega, ?_⟩) (fun hbf => ⟨e2, _, rfl, ffIff (no fun e => ?_)⟩))⟩
    · rw [List.take_succ_eq_append_getElem hkp, List.take_succ_eq_append_getElem hkq, hk]
      congr 2
      exact Prod.ext he (hb.1 hbt)
    · have := hb.2 (by rw [e]); rw [hbf] at this; cases this
  · obtain rfl : k = T.length := by omega
    rw [List.take_length, List.take_of_length_le (by omega)] at hk
    exact ⟨e2, _, rfl, ttIff ⟨hnm, hk⟩⟩

end Go.Proofs.Ytehhkjgcklhfcaa
