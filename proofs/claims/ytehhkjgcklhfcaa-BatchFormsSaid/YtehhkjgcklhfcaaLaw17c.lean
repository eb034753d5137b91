/-
  BatchForms (chapter 17).
-/
import Derived.Test.YtehhkjgcklhfcaaMk17
namespace Go.Proofs.Ytehhkjgcklhfcaa
set_option linter.unusedVariables false
set_option linter.unusedSimpArgs false

/-- how many of a queue make the next batch. -/
structure FormP (T : List TxD) (n : Nat) : Prop where
  le : n ≤ T.length
  max : n ≤ 8
  fits : n = 0 ∨ n = 1 ∨ blocksN (T.take n) ≤ 33
  full : n = T.length ∨ n = 8 ∨ (0 < n ∧ 33 < blocksN (T.take n) + (pt T n).length)
theorem Form_spec {B : Nat → Prop} {h : Hp} {s : Sl} {T : List TxD} (t : TxsR B h s T) (hP : ∀ j, (pt T j).length ≤ 1000000) (hT : T.length ≤ 1000000) :
    HCalls Try.prog fn_batch_Form #[.slice s.base s.len s.cap] h fun r h' => Ext h h' ∧ ∃ n : Nat, r = .int .i64 n ∧ FormP T n := by
  apply batch_Form_vc
  unfold vcbatch_Form
  have hl := t.len
  refine ⟨fun n puts k m h' => ∃ j : Nat, n = j ∧ k = j ∧ puts = ((blocksN (T.take j) - 1 : Nat) : Int) ∧ m + j = T.length ∧ Ext h h' ∧ j ≤ 8 ∧ blocksN (T.take j) ≤ 1 + j * 1000000 ∧ (j = 0 ∨ j = 1 ∨ blocksN (T.take j) ≤ 33), T.length,
    ⟨0, rfl, rfl, by simp [blocksN], rfl, .refl _, by omega, by simp [blocksN], .inl rfl⟩, ?_⟩
  rintro _ _ _ _ m h1 ⟨j, rfl, rfl, rfl, hm, e1, h8, hbb, hf⟩
  have hb1 : 1 ≤ blocksN (T.take j) := by unfold blocksN; omega
  refine IfB.dec (fun hlt => ?_) (fun hge => ⟨e1, j, rfl, by omega, h8, hf, .inl (by omega)⟩)
  have hj : j < T.length := by omega
  refine (t.ext e1).ix j rfl hj fun a d c0 c1 pr => ⟨_, _, c0, c1, ?_⟩
  have hd := pr.len
  rw [pt_get hj] at hd
  have hpt := hP j
  have hbs := blocksN_take hj
  have ei : iAdd .i64 (j : Int) (1 : Int) = ((j + 1 : Nat) : Int) := by rw [iAdd64 (by omega)]; push_cast; rfl
  have ep : iAdd .i64 ((blocksN (T.take j) - 1 : Nat) : Int) (d.len : Int) = ((blocksN (T.take (j + 1)) - 1 : Nat) : Int) := by rw [iAdd64 (by omega)]; omega
  intro h2
  refine loc2 rfl rfl fun h3 e3 r3 => IfB.dec (fun hge => ⟨e1.trans e3, j, rfl, by omega, h8, hf, .inr (.inl (by omega))⟩) (fun hlt8 => ?_)
  refine IfB.dec (fun hpos => ?_) (fun hz => ?_)
  · refine ⟨d, r3.get rfl, ?_⟩
    rw [iSub64 (by omega)]
    refine IfB.dec (fun hgt => ⟨e1.trans e3, j, rfl, by omega, h8, hf, .inr (.inr ⟨by omega, by omega⟩)⟩) (fun hle => ?_)
    refine ⟨d, r3.get rfl, m - 1, by omega, j + 1, ei, ei, ep, by omega, e1.trans e3, by omega, by omega, .inr (.inr (by omega))⟩
  · refine ⟨d, r3.get rfl, m - 1, by omega, j + 1, ei, ei, ep, by omega, e1.trans e3, by omega, by omega, .inr (.inl (by omega))⟩

def qN (l : List Int) (i : Nat) : Nat := (l.getD i 0 % 16).toNat + 1
def qT (l : List Int) (k : Nat) : List TxD := (List.range k).map fun i => (((i + 1 : Nat) : Int), ptsK (qN l i))
theorem qT_len (l : List Int) (k : Nat) : (qT l k).length = k := by simp [qT]
theorem qT_succ (l : List Int) (k : Nat) : qT l (k + 1) = qT l k ++ [(((k + 1 : Nat) : Int), ptsK (qN l k))] := by unfold qT; rw [List.range_succ, List.map_append]; rfl
theorem qN_le (l : List Int) (i : Nat) : qN l i ≤ 16 := by
  unfold qN
  have h1 := Int.emod_lt_of_pos (l.getD i 0) (show (0 : Int) < 16 by omega)
  omega
theorem qT_at {l : List Int} {K p n j : Nat} (hj : j < n) (hp : p + n ≤ K) : (((qT l K).drop p).take n).getD j (0, []) = (((p + j + 1 : Nat) : Int), ptsK (qN l (p + j))) := by
  simp [qT, List.getElem?_take, List.getElem?_drop, hj, show p + j < K by omega]
theorem qT_check {l : List Int} {K p n : Nat} {num : Int} (hn : 1 ≤ n ∧ n ≤ 8) (hp : p + n ≤ K) (hK : K ≤ 100) (hb : blocksN (((qT l K).drop p).take n) ≤ 33) (hnum : 1 ≤ num ∧ num ≤ 1000) : CheckP num (((qT l K).drop p).take n) := by
  have hl : (((qT l K).drop p).take n).length = n := by simp [qT_len]; omega
  have ht : ∀ j, j < n → tm (((qT l K).drop p).take n) j = ((p + j + 1 : Nat) : Int) := fun j hj => by unfold tm; rw [qT_at hj hp]
  have hpt : ∀ j, j < n → pt (((qT l K).drop p).take n) j = ptsK (qN l (p + j)) := fun j hj => by unfold pt; rw [qT_at hj hp]
  refine ⟨by omega, by omega, fun j hj => ?_, hb, fun j hj => ?_⟩
  · rw [hl] at hj
    rw [ht j hj, hpt j hj]
    refine ⟨?_, by omega, by rw [ptsK_len]; unfold qN; omega, ptsK_rises _⟩
    unfold prevT
    split
    · omega
    · rw [ht _ (by omega)]; omega
  · rw [hl] at hj
    rw [ht j hj, hpt j hj, ptsK_len]
    refine ⟨fun h => by rw [ht _ (by omega)]; omega, qN_le _ _, ptsK_ok (by have := qN_le l (p + j); omega)⟩
theorem BatchForms_law {h : Hp} (s : Sl) (l : List Int) (w : InI .i64 h s l) : HCalls Try.prog fn_scarplaw17_BatchForms #[.slice s.base s.len s.cap] h (Yes h) := by
  apply scarplaw17_BatchForms_vc
  unfold vcscarplaw17_BatchForms
  have hl := w.len
  refine IfB.dec (fun _ => aw17 (.refl h)) (fun h100 => ?_)
  refine ⟨fun q i m h' => ∃ (k : Nat) (B : Nat → Prop) (L : List ((Int × Sl) × List PutD)), i = k ∧ m + k = l.length ∧ Ext h h' ∧ OwnTxs h.size B h' q L ∧ (∀ b, B b → b < h'.size) ∧ plT L = qT l k, l.length,
    ⟨0, fun _ => False, [], rfl, rfl, .refl _, OwnTxs.nil _ _ _, fun b hb => hb.elim, rfl⟩, ?_⟩
  rintro _ q _ m h1 ⟨k, B, L, rfl, hmk, e1, o1, hB, hT⟩
  have hLk : L.length = k := by have := congrArg List.length hT; simpa [plT, qT_len] using this
  have s1 := e1.size
  refine IfB.dec (fun hlt => ?_) (fun hge => ?_)
  · have hk : k < l.length := by omega
    intro h2
    refine loc2 rfl rfl fun h3 e3 r3 => ?_
    have s3 := e3.size
    have hr3 := r3.lt
    have etm : iAdd .i64 (k : Int) (1 : Int) = ((k + 1 : Nat) : Int) := by rw [iAdd64 (by omega)]; push_cast; rfl
    rw [etm] at r3 ⊢
    refine ⟨fun kk m h' => ∃ (j : Nat) (c : Sl) (P : List ((Int × Sl) × List UInt8)), kk = j ∧ m + j = qN l k ∧ Ext h1 h' ∧ h3.size ≤ h'.size ∧ Row h' h1.size [.int .i64 ((k + 1 : Nat) : Int), .slice c.base c.len c.cap] ∧ OwnPuts (h1.size + 1) h' c P ∧ plP P = ptsK j, qN l k,
      ⟨0, Sl.nil, [], rfl, rfl, e3, Nat.le_refl _, r3, OwnPuts.nil _ _, rfl⟩, ?_⟩
    rintro _ _ m4 h4 ⟨j, c, P, rfl, hmj, e4, s34, r4, o4, hP⟩
    have e04 := e1.trans e4
    have hPl : P.length = j := by have := congrArg List.length hP; simpa [plP, ptsK_len] using this
    have hq16 := qN_le l k
    obtain ⟨a, ha, hcell⟩ := w.rd.get (i := k) (by simpa using hk)
    refine ⟨a, ha, by omega, by omega, l[k], by
      have := w.rd.ext e04
      obtain ⟨a', ha', hc'⟩ := this.get (i := k) (by simpa using hk)
      rw [ha] at ha'; cases ha'
      simpa using hc', ?_⟩
    refine (Round_spec l[k] 16 (by omega) (by omega) h4).mono ?_
    rintro _ h5 ⟨rfl, rfl⟩
    refine ⟨_, rfl, ?_⟩
    have hmod : l[k] % 16 = ((qN l k - 1 : Nat) : Int) := by
      have h1 := Int.emod_nonneg l[k] (show (16 : Int) ≠ 0 by omega)
      unfold qN
      rw [List.getD_eq_getElem?_getD, List.getElem?_eq_getElem hk]
      show _ = (((l[k] % 16).toNat + 1 - 1 : Nat) : Int)
      omega
    rw [hmod]
    have hq1 : 1 ≤ qN l k := by unfold qN; omega
    refine IfB.dec (fun hle => ?_) (fun hgt => ?_)
    · refine ⟨c, r4.get rfl, ?_⟩
      have hs4 := e4.size
      refine putStep r4 o4 (by omega) (by omega) (by omega) fun h' r u r' o' _ s' x' => ?_
      refine ⟨m4 - 1, by omega, j + 1, r, _, by rw [iAdd64 (by omega)]; push_cast; rfl, by omega, ⟨by omega, fun b hb => ?_⟩, by omega, r', o', ?_⟩
      · rw [x' b (by omega) (by omega), e4.block b hb]
      · rw [ptsK_succ, ← hP]; simp [plP]
    · have hj : j = qN l k := by omega
      subst hj
      refine ⟨_, c, r4.get0 rfl, r4.get rfl, ?_⟩
      intro h6
      have hs4 := e4.size
      have hap : ∀ a, q.base = some a → a.block < h1.size := fun a ha => (o1.own.lt ha).2
      refine OwnTxs.push (B := fun b => B b ∨ (h1.size + 1 ≤ b ∧ b < h5.size)) (P := plP P) rfl ((o1.ext e4).mono (fun b hb => .inl hb) fun a ha hb => ?_) (fun b hb => ?_) (by omega) (o4.puts.mono fun b hb => .inr hb) (by omega) fun r h7 o7 l7 k7 x7 _ => ?_
      · rcases hb with hb | hb
        · exact o1.apart a ha hb
        · have := hap a ha; omega
      · rcases hb with hb | hb
        · have := hB b hb; omega
        · omega
      · have s7 := k7.size
        refine ⟨m - 1, by omega, k + 1, _, _, by push_cast; rfl, by omega, ?_, o7, fun b hb => ?_, ?_⟩
        · exact (e04.toKeep.trans k7).ext
        · rcases hb with hb | hb
          · have := hB b hb; omega
          · omega
        · rw [qT_succ, ← hT, hP.symm]; simp [plT]
  obtain rfl : k = l.length := by omega
  have tx : TxsR (fun b => b < h1.size) h1 q (qT l l.length) := by
    rw [← hT]; exact o1.txs hB fun b _ hb => hb
  have hcap := tx.cap
  refine ⟨fun q1 num m h' => ∃ p nu : Nat, num = nu ∧ 1 ≤ nu ∧ nu ≤ p + 1 ∧ m + p = l.length ∧ Ext h1 h' ∧ TxsR (fun b => b < h1.size) h' q1 ((qT l l.length).drop p), l.length, ⟨0, 1, rfl, by omega, by omega, by omega, .refl _, by simpa using tx⟩, ?_⟩
  rintro _ q1 _ m2 h2 ⟨p, nu, rfl, hnu1, hnu2, hmp, e2, tx2⟩
  have hl2 := tx2.len
  simp only [List.length_drop, qT_len] at hl2
  have hcap2 := tx2.cap
  have hptq : ∀ (m n : Nat), m + n ≤ l.length → ∀ j, (pt (((qT l l.length).drop m).take n) j).length ≤ 1000000 := fun m n hm j => by
    by_cases hj : j < n
    · unfold pt; rw [qT_at hj hm]; show (ptsK _).length ≤ _; rw [ptsK_len]; have := qN_le l (m + j); omega
    · unfold pt; rw [List.getD_eq_getElem?_getD, List.getElem?_eq_none (by simp; omega)]; simp
  refine IfB.dec (fun hpos => ?_) (fun hz => ?_)
  · have hdt : (qT l l.length).drop p = ((qT l l.length).drop p).take (l.length - p) := by rw [List.take_of_length_le (by simp [qT_len])]
    have hpt : ∀ j, (pt ((qT l l.length).drop p) j).length ≤ 1000000 := fun j => by rw [hdt]; exact hptq p (l.length - p) (by omega) j
    refine (Form_spec tx2 hpt (by simp [qT_len]; omega)).mono ?_
    rintro _ h3 ⟨e3, n, rfl, f⟩
    have fle := f.le
    have fmax := f.max
    have ffull := f.full
    simp only [List.length_drop, qT_len] at fle ffull
    have hn1 : 1 ≤ n := by omega
    have hbl : blocksN (((qT l l.length).drop p).take n) ≤ 33 := by
      rcases f.fits with h | h | h
      · omega
      · subst h
        have h0 : (0 : Nat) < ((qT l l.length).drop p).length := by simp [qT_len]; omega
        have h1 := blocksN_take h0
        have h2 : blocksN (((qT l l.length).drop p).take 0) = 1 := by simp [blocksN]
        have h3 : pt ((qT l l.length).drop p) 0 = ptsK (qN l (p + 0)) := by unfold pt; rw [hdt, qT_at (by omega) (by omega)]
        rw [h3, ptsK_len, h2] at h1
        have := qN_le l (p + 0)
        rw [h1]; omega
      · exact h
    refine ⟨_, rfl, .no (by simp; omega) (.no (by simp; omega) (.no (by simp; omega) ⟨by omega, by omega, by omega, by omega, ?_⟩))⟩
    have tx3 := tx2.ext e3
    have ck : CheckP (nu : Int) (((qT l l.length).drop p).take n) := qT_check (by omega) (by omega) (by omega) hbl (by omega)
    have hcut := tx3.cut (lo := 0) (hi := n) (m := q1.cap) (by omega) (by omega) (by omega)
    rw [List.drop_zero, Nat.sub_zero] at hcut
    have hn0 : (0 : Int) = ((0 : Nat) : Int) := rfl
    intro h4
    refine loc2 rfl rfl fun h5 e5 r5 => ?_
    refine r5.get2s ?_
    have hpn := hptq p n (by omega)
    refine (Check_spec (nu : Int) (hcut.ext e5) hpn).mono ?_
    rintro _ h6 ⟨e6, c, rfl, hc, _⟩
    obtain rfl := hc.2 ck
    refine ⟨_, rfl, .no rfl ((r5.ext e6).get2s ?_)⟩
    refine (Blocks_spec (nu : Int) ((hcut.ext e5).ext e6) (by simp [qT_len]; omega) (by omega)).mono ?_
    rintro _ h7 ⟨e7, rfl⟩
    refine ⟨_, rfl, .no (by simp; omega) ?_⟩
    have e27 := ((e3.trans e5).trans e6).trans e7
    have done : ∀ h', Ext h7 h' → ∃ n8, n8 < m2 ∧ (fun q1 num m h' => ∃ p nu : Nat, num = (nu : Int) ∧ 1 ≤ nu ∧ nu ≤ p + 1 ∧ m + p = l.length ∧ Ext h1 h' ∧ TxsR (fun b => b < h1.size) h' q1 ((qT l l.length).drop p)) (cutSl q1 (n : Int) (q1.len : Int) (q1.cap : Int) 2) (iAdd .i64 (nu : Int) (1 : Int)) n8 h' := fun h' e' => by
      refine ⟨m2 - n, by omega, p + n, nu + 1, by rw [iAdd64 (by omega)]; push_cast; rfl, by omega, by omega, by omega, (e2.trans e27).trans e', ?_⟩
      have := ((tx2.ext e27).ext e').cut (lo := n) (hi := q1.len) (m := q1.cap) (by omega) (by omega) (by omega)
      rw [List.drop_drop, List.take_of_length_le (by simp [qT_len]; omega)] at this
      exact this
    refine IfB.dec (fun hlt => IfB.dec (fun hlt8 => ?_) (fun _ => ⟨by omega, by omega, by omega, by omega, done _ (.refl _)⟩)) (fun _ => ⟨by omega, by omega, by omega, by omega, done _ (.refl _)⟩)
    refine (r5.ext (e6.trans e7)).get2s ?_
    refine (tx2.ext e27).ix n rfl (by simp [qT_len]; omega) fun a d c0 c1 pr => ⟨d, c1, ?_⟩
    have hd := pr.len
    rw [pt_get] at hd
    refine (Blocks_spec (nu : Int) (((hcut.ext e5).ext e6).ext e7) (by simp [qT_len]; omega) (by omega)).mono ?_
    rintro _ h8 ⟨e8, rfl⟩
    have hb1 : 1 ≤ blocksN (((qT l l.length).drop p).take n) := by unfold blocksN; omega
    have hdp := hpt n
    refine ⟨_, rfl, e8, ?_⟩
    rw [iSub64 (by omega), iAdd64 (by omega)]
    refine .no ?_ ⟨by omega, by omega, by omega, by omega, done _ e8⟩
    have : 33 < blocksN (((qT l l.length).drop p).take n) + (pt ((qT l l.length).drop p) n).length := by omega
    simp; omega
  · have tn : TxsR (fun _ => False) h2 Sl.nil [] := ⟨[], rfl, Rd.nil _ _, fun a ha => (by cases ha), fun x hx => by simp at hx⟩
    refine (Form_spec tn (fun j => by simp [pt]) (by simp)).mono ?_
    rintro _ h3 ⟨e3, n, rfl, f⟩
    obtain rfl : n = 0 := by have := f.le; simpa using this
    exact ⟨_, rfl, .yes rfl (aw17 ((e1.trans e2).trans e3))⟩

end Go.Proofs.Ytehhkjgcklhfcaa
