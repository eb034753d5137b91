/-
  BatchLimits (chapter 17).
-/
import Derived.Test.YtehhkjgcklhfcaaMk17
namespace Go.Proofs.Ytehhkjgcklhfcaa
set_option linter.unusedVariables false
set_option linter.unusedSimpArgs false

def limT (gap : Int) (p n : Nat) : List TxD := (List.range n).map fun i : Nat => (1 + i * gap, ptsK p)
theorem limT_len (gap : Int) (p n : Nat) : (limT gap p n).length = n := by simp [limT]
theorem limT_succ (gap : Int) (p n : Nat) : limT gap p (n + 1) = limT gap p n ++ [(1 + n * gap, ptsK p)] := by unfold limT; rw [List.range_succ, List.map_append]; rfl
theorem limT_tm {gap : Int} {p n j : Nat} (hj : j < n) : tm (limT gap p n) j = 1 + j * gap := by simp [tm, limT, hj]
theorem limT_pt {gap : Int} {p n j : Nat} (hj : j < n) : pt (limT gap p n) j = ptsK p := by simp [pt, limT, hj]
theorem limT_blocks (gap : Int) (p n : Nat) : blocksN (limT gap p n) = 1 + n * p := by
  induction n with
  | zero => simp [blocksN, limT]
  | succ n ih => unfold blocksN at *; rw [limT_succ, List.map_append, List.sum_append]; simp [ptsK_len] at *; rw [Nat.add_mul]; omega
def okL (gap : Int) (p n : Nat) : Prop := 1 ≤ n ∧ n ≤ 8 ∧ 1 ≤ p ∧ p ≤ 16 ∧ n * p ≤ 32 ∧ (n = 1 ∨ 1 ≤ gap ∧ gap ≤ 65535)
theorem limT_check {gap : Int} {p n : Nat} (hg : 0 ≤ gap ∧ gap ≤ 70000) (hp : p ≤ 1000) : CheckP 1 (limT gap p n) ↔ okL gap p n := by
  constructor
  · rintro ⟨_, hl, ho, hb, he⟩
    rw [limT_len] at hl
    rw [limT_blocks] at hb
    have o0 := ho 0 (by rw [limT_len]; omega)
    rw [limT_tm (by omega), limT_pt (by omega), ptsK_len] at o0
    have e0 := he 0 (by rw [limT_len]; omega)
    rw [limT_pt (by omega), ptsK_len] at e0
    refine ⟨hl.1, hl.2, by omega, e0.2.1, by omega, ?_⟩
    by_cases h1 : n = 1
    · exact .inl h1
    · right
      have o1 := ho 1 (by rw [limT_len]; omega)
      have e1 := he 1 (by rw [limT_len]; omega)
      have hp1 : prevT (limT gap p n) 1 = tm (limT gap p n) 0 := by simp [prevT]
      rw [hp1, limT_tm (by omega), limT_tm (by omega)] at o1
      rw [limT_tm (by omega), limT_tm (by omega)] at e1
      have a1 := o1.1
      have a2 := e1.1 (by omega)
      simp only [Nat.sub_self] at a2
      push_cast at a1 a2
      omega
  · rintro ⟨h1, h2, h3, h4, h5, h6⟩
    refine ⟨by omega, by rw [limT_len]; omega, fun j hj => ?_, by rw [limT_blocks]; omega, fun j hj => ?_⟩
    · rw [limT_len] at hj
      rw [limT_tm hj, limT_pt hj, ptsK_len]
      have hjg : (j : Int) * gap ≤ 8 * 70000 := Int.mul_le_mul (by omega) hg.2 hg.1 (by omega)
      have hjg0 : 0 ≤ (j : Int) * gap := Int.mul_nonneg (by omega) hg.1
      refine ⟨?_, by omega, by omega, ptsK_rises _⟩
      unfold prevT
      split
      · omega
      · rename_i hj0
        rw [limT_tm (by omega)]
        obtain ⟨i, rfl⟩ : ∃ i, j = i + 1 := ⟨j - 1, by omega⟩
        have : (((i + 1 : Nat)) : Int) * gap = (i : Int) * gap + gap := by rw [show (((i + 1 : Nat)) : Int) = (i : Int) + 1 by omega, Int.add_mul, Int.one_mul]
        rw [this, Nat.add_sub_cancel]; omega
    · rw [limT_len] at hj
      rw [limT_tm hj, limT_pt hj, ptsK_len]
      refine ⟨fun h0 => ?_, h4, ptsK_ok (by omega)⟩
      rw [limT_tm (by omega)]
      obtain ⟨i, rfl⟩ : ∃ i, j = i + 1 := ⟨j - 1, by omega⟩
      have : (((i + 1 : Nat)) : Int) * gap = (i : Int) * gap + gap := by rw [show (((i + 1 : Nat)) : Int) = (i : Int) + 1 by omega, Int.add_mul, Int.one_mul]
      rw [this, Nat.add_sub_cancel]; omega
theorem BatchLimits_law {h : Hp} (n : Int) (_ : (Lit.int .i64 n).wf = true) (puts : Int) (_ : (Lit.int .i64 puts).wf = true) (gap : Int) (_ : (Lit.int .i64 gap).wf = true) :
    HCalls Try.prog fn_scarplaw17_BatchLimits #[.int .i64 n, .int .i64 puts, .int .i64 gap] h (Yes h) := by
  apply scarplaw17_BatchLimits_vc
  unfold vcscarplaw17_BatchLimits
  refine IfB.dec (fun _ => aw17 (.refl h)) (fun a1 => IfB.dec (fun _ => aw17 (.refl h)) (fun a2 => IfB.dec (fun _ => aw17 (.refl h)) (fun a3 => IfB.dec (fun _ => aw17 (.refl h)) (fun a4 => IfB.dec (fun _ => aw17 (.refl h)) (fun a5 => IfB.dec (fun _ => aw17 (.refl h)) (fun a6 => ?_))))))
  obtain ⟨N, rfl⟩ : ∃ N : Nat, n = N := ⟨n.toNat, by omega⟩
  obtain ⟨P, rfl⟩ : ∃ P : Nat, puts = P := ⟨puts.toNat, by omega⟩
  intro h0
  refine loc2 rfl rfl fun h1 e1 r1 => ?_
  have s1 := e1.size
  have hr1 := r1.lt
  refine ⟨fun i m h' => ∃ (k : Nat) (q : Sl) (B : Nat → Prop) (L : List ((Int × Sl) × List PutD)), i = k ∧ m + k = N ∧ Ext h h' ∧ h1.size ≤ h'.size ∧ Row h' h.size [.int .i64 (1 : Int), .slice q.base q.len q.cap] ∧ OwnTxs (h.size + 1) B h' q L ∧ (∀ b, B b → h.size + 1 ≤ b ∧ b < h'.size) ∧ plT L = limT gap P k, N,
    ⟨0, Sl.nil, fun _ => False, [], rfl, rfl, e1, Nat.le_refl _, r1, OwnTxs.nil _ _ _, fun b hb => hb.elim, rfl⟩, ?_⟩
  rintro _ _ m h2 ⟨k, q, B, L, rfl, hmk, e2, s12, r2, o2, hB, hT⟩
  have hLk : L.length = k := by have := congrArg List.length hT; simpa [plT, limT_len] using this
  refine IfB.dec (fun hlt => ?_) (fun hge => ?_)
  · have hkg : (k : Int) * gap ≤ 12 * 70000 := Int.mul_le_mul (by omega) (by omega) (by omega) (by omega)
    have hkg0 : 0 ≤ (k : Int) * gap := Int.mul_nonneg (by omega) (by omega)
    have etm : iAdd .i64 (1 : Int) (iMul .i64 (k : Int) gap) = 1 + k * gap := by rw [iMul64 (by omega), iAdd64 (by omega)]
    rw [etm]
    intro h3
    refine loc2 rfl rfl fun h4 e4 r4 => ?_
    have s4 := e4.size
    have hr4 := r4.lt
    refine ⟨fun kk m h' => ∃ (j : Nat) (c : Sl) (Q : List ((Int × Sl) × List UInt8)), kk = j ∧ m + j = P ∧ Ext h2 h' ∧ h4.size ≤ h'.size ∧ Row h' h2.size [.int .i64 (1 + k * gap), .slice c.base c.len c.cap] ∧ OwnPuts (h2.size + 1) h' c Q ∧ plP Q = ptsK j, P,
      ⟨0, Sl.nil, [], rfl, rfl, e4, Nat.le_refl _, r4, OwnPuts.nil _ _, rfl⟩, ?_⟩
    rintro _ _ m5 h5 ⟨j, c, Q, rfl, hmj, e5, s45, r5, o5, hQ⟩
    have hQl : Q.length = j := by have := congrArg List.length hQ; simpa [plP, ptsK_len] using this
    refine IfB.dec (fun hle => ?_) (fun hgt => ?_)
    · refine ⟨c, r5.get rfl, ?_⟩
      refine putStep r5 o5 (by omega) (by omega) (by omega) fun h' r u r' o' _ s' x' => ?_
      refine ⟨m5 - 1, by omega, j + 1, r, _, by rw [iAdd64 (by omega)]; push_cast; rfl, by omega, ⟨by omega, fun b hb => ?_⟩, by omega, r', o', ?_⟩
      · rw [x' b (by omega) (by omega), e5.block b hb]
      · rw [ptsK_succ, ← hQ]; simp [plP]
    · obtain rfl : j = P := by omega
      refine ⟨q, (r2.ext e5).get rfl, _, c, r5.get0 rfl, r5.get rfl, ?_⟩
      intro h6
      have hap : ∀ a, q.base = some a → h.size + 1 ≤ a.block ∧ a.block < h2.size := fun a ha => o2.own.lt ha
      refine OwnTxs.push (B := fun b => B b ∨ (h2.size + 1 ≤ b ∧ b < h5.size)) (P := plP Q) rfl ((o2.ext e5).mono (fun b hb => .inl hb) fun a ha hb => ?_) (fun b hb => ?_) (by omega) (o5.puts.mono fun b hb => .inr hb) (by omega) fun r h7 o7 l7 k7 x7 _ => ?_
      · rcases hb with hb | hb
        · exact o2.apart a ha hb
        · have := hap a ha; omega
      · rcases hb with hb | hb
        · have := hB b hb; omega
        · omega
      · have s7 := k7.size
        have row7 : Row h7 h.size [.int .i64 (1 : Int), .slice q.base q.len q.cap] := (r2.ext e5).eq (k7.block _ (by omega))
        obtain ⟨ok, row8, x8, s8⟩ := row7.set (i := 1) (by simp) (.slice r.base r.len r.cap)
        have E8 : Ext h (hset h7 ((⟨h.size, 0, none⟩ : Addr).add 1) (.slice r.base r.len r.cap)) := ⟨by omega, fun b hb => by rw [x8 b (by omega), k7.block b (by omega), e5.block b (by omega), e2.block b hb]⟩
        have S8 : h1.size ≤ (hset h7 ((⟨h.size, 0, none⟩ : Addr).add 1) (.slice r.base r.len r.cap)).size := by omega
        have B8 : ∀ b, (B b ∨ (h2.size + 1 ≤ b ∧ b < h5.size)) → h.size + 1 ≤ b ∧ b < (hset h7 ((⟨h.size, 0, none⟩ : Addr).add 1) (.slice r.base r.len r.cap)).size := fun b hb => by
          rcases hb with hb | hb
          · have := hB b hb; omega
          · omega
        refine ⟨ok, m - 1, by omega, k + 1, r, _, _, by rw [iAdd64 (by omega)]; push_cast; rfl, by omega, E8, S8, row8, ⟨o7.own.eq fun a ha => x8 _ (by have := (o7.own.lt ha).1; omega), fun x hx => (o7.each x hx).eq fun b hb => x8 b ?_, o7.apart⟩, B8, ?_⟩
        · have := B8 b hb; omega
        · rw [limT_succ, ← hT, hQ.symm]; simp [plT]
  obtain rfl : k = N := by omega
  refine ⟨fun ok h' => h2 = h' ∧ (ok = true ↔ okL gap P k), ?_, ?_⟩
  · have hNP : ((k * P : Nat) : Int) = (k : Int) * (P : Int) := Int.natCast_mul _ _
    have hNP2 : k * P ≤ 12 * 20 := Nat.mul_le_mul (by omega) (by omega)
    rw [iMul64 (by omega), ← hNP]
    unfold okL
    refine IfB.dec (fun c1 => IfB.dec (fun c2 => IfB.dec (fun c3 => IfB.dec (fun c4 => IfB.dec (fun c5 => IfB.eq (fun c6 => ⟨rfl, ttIff ⟨by omega, by omega, by omega, by omega, by omega, .inl (by omega)⟩⟩) (fun c6 => IfB.dec (fun c7 => ⟨rfl, ?_⟩) (fun c7 => ⟨rfl, ffIff (by omega)⟩))) (fun c5 => ⟨rfl, ffIff (by omega)⟩)) (fun c4 => ⟨rfl, ffIff (by omega)⟩)) (fun c3 => ⟨rfl, ffIff (by omega)⟩)) (fun c2 => ⟨rfl, ffIff (by omega)⟩)) (fun c1 => ⟨rfl, ffIff (by omega)⟩)
    rw [decide_eq_true_iff]
    omega
  · rintro _ ok _ ⟨rfl, hok⟩
    rw [← limT_check (by omega) (by omega)] at hok
    refine r2.get2s ?_
    have tx : TxsR (· < h2.size) h2 q (limT gap P k) := by
      rw [← hT]; exact o2.txs (fun b hb => (hB b hb).2) fun b _ hb => hb
    have hpt : ∀ j, (pt (limT gap P k) j).length ≤ 1000000 := fun j => by
      by_cases hj : j < k
      · rw [limT_pt hj, ptsK_len]; omega
      · unfold pt; rw [List.getD_eq_getElem?_getD, List.getElem?_eq_none (by rw [limT_len]; omega)]; simp
    have hNP : ((k * P : Nat) : Int) = (k : Int) * (P : Int) := Int.natCast_mul _ _
    have hNP2 : k * P ≤ 12 * 20 := Nat.mul_le_mul (by omega) (by omega)
    refine (BEncode_spec 1 0 tx hpt).mono ?_
    rintro v3 h3 ⟨e3, hcase⟩
    obtain ⟨t, err, rfl, herr, hlen⟩ : ∃ (t : Sl) (err : Int), v3 = Value.tuple #[.slice t.base t.len t.cap, .int .i64 err] ∧ ((err = 0) ↔ CheckP 1 (limT gap P k)) ∧ ((t.len : Int) = (k * P : Nat) + 1 ↔ CheckP 1 (limT gap P k)) := by
      rcases hcase with ⟨hno, rfl⟩ | ⟨⟨ck, _, _⟩, t, rows, rfl, ot, hrows⟩
      · have hc : ¬ CheckP 1 (limT gap P k) := fun hc => hno ⟨hc, by omega, by omega⟩
        exact ⟨Sl.nil, 1, rfl, ⟨fun h => by omega, fun h => absurd h hc⟩, ⟨fun h => by simp [Sl.nil] at h; omega, fun h => absurd h hc⟩⟩
      · have h1 := congrArg List.length hrows
        rw [encB_len, limT_blocks] at h1
        have h2 := ot.len
        have h3 : rows.length = 1 + k * P := by simpa using h1
        exact ⟨t, 0, rfl, ⟨fun _ => ck, fun _ => rfl⟩, ⟨fun _ => ck, fun _ => by omega⟩⟩
    refine ⟨t, err, rfl, ?_⟩
    refine (r2.ext e3).get2s ?_
    refine (Check_spec 1 (tx.ext e3) hpt).mono ?_
    rintro _ h4 ⟨e4, c, rfl, hc, _⟩
    have e04 := (e2.trans e3).trans e4
    rw [iMul64 (by omega), ← hNP, iAdd64 (by omega)]
    have b1 : ((c == (0 : Int)) == ok) = true := by
      rw [beq_iff_eq, Bool.eq_iff_iff, beq_iff_eq, hc, hok]
    have b2 : ((err == (0 : Int)) == ok) = true := by
      rw [beq_iff_eq, Bool.eq_iff_iff, beq_iff_eq, herr, hok]
    have b3 : (((t.len : Int) == ((k * P : Nat) : Int) + 1) == ok) = true := by
      rw [beq_iff_eq, Bool.eq_iff_iff, beq_iff_eq, hlen, hok]
    exact ⟨_, rfl, .yes b1 (.yes b2 (.yes b3 (aw17 e04)))⟩

end Go.Proofs.Ytehhkjgcklhfcaa
