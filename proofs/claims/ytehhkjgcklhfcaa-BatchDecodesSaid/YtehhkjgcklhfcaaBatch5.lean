/-
  Rows of blocks that are a batch: in plain terms.
-/
import Derived.Test.YtehhkjgcklhfcaaBatch4
import Derived.Test.YtehhkjgcklhfcaaPlain8
namespace Go.Proofs.Ytehhkjgcklhfcaa
set_option linter.unusedVariables false
set_option linter.unusedSimpArgs false

structure IsB (l : List (List UInt8)) (i num epoch : Nat) (T : List TxD) : Prop where
  lt : i < l.length
  check : CheckP num T
  hep : epoch < 2 ^ 32
  rows : l.take (i + 1) = encB num epoch T

theorem leN_inj : ∀ (a b : List UInt8), a.length = b.length → leN a = leN b → a = b
  | [], [], _, _ => rfl
  | x :: a, y :: b, hl, h => by
    simp only [leN] at h
    have h1 := u8lt x
    have h2 := u8lt y
    have hx : x.toNat = y.toNat := by omega
    have := leN_inj a b (by simpa using hl) (by omega)
    rw [this, UInt8.toNat_inj.1 hx]
theorem leB_leN (l : List UInt8) : leB l.length (leN l) = l := by
  apply leN_inj
  · exact leB_length _ _
  · rw [leN_leB, Nat.mod_eq_of_lt (leN_lt l)]
theorem range_getD (bs : List UInt8) (o n : Nat) (h : o + n ≤ bs.length) : (List.range n).map (fun k => bs.getD (o + k) 0) = (bs.drop o).take n := by
  apply List.ext_getElem
  · simp; omega
  · intro k h1 h2
    simp only [List.length_map, List.length_range] at h1
    simp only [List.getElem_map, List.getElem_range, List.getElem_take, List.getElem_drop, List.getD_eq_getElem?_getD]
    rw [List.getElem?_eq_getElem (by omega)]; rfl
theorem range_pairs (f : Nat → UInt8) (n : Nat) : (List.range n).flatMap (fun k => [f (2 * k), f (2 * k + 1)]) = (List.range (2 * n)).map f := by
  induction n with
  | zero => rfl
  | succ n ih => rw [List.range_succ, List.flatMap_append, ih, show 2 * (n + 1) = 2 * n + 1 + 1 by omega, List.range_succ, List.range_succ, List.map_append, List.map_append]; simp
theorem ofNat_toNat8 (x : UInt8) : UInt8.ofNat x.toNat = x := by apply UInt8.toNat_inj.1; rw [UInt8.toNat_ofNat']; have := u8lt x; omega
theorem leB2_st (bs : List UInt8) (j : Nat) : leB 2 (bSt bs j) = [bs.getD (9 + 2 * j) 0, bs.getD (9 + (2 * j + 1)) 0] := by
  have h1 := u8lt (bs.getD (9 + 2 * j) 0)
  have h2 := u8lt (bs.getD (9 + (2 * j + 1)) 0)
  rw [leB2]
  have e : bSt bs j = (bs.getD (9 + 2 * j) 0).toNat + 256 * (bs.getD (9 + (2 * j + 1)) 0).toNat := rfl
  rw [e]
  have a1 : UInt8.ofNat ((bs.getD (9 + 2 * j) 0).toNat + 256 * (bs.getD (9 + (2 * j + 1)) 0).toNat) = bs.getD (9 + 2 * j) 0 := by apply UInt8.toNat_inj.1; rw [UInt8.toNat_ofNat']; omega
  have a2 : UInt8.ofNat (((bs.getD (9 + 2 * j) 0).toNat + 256 * (bs.getD (9 + (2 * j + 1)) 0).toNat) / 256) = bs.getD (9 + (2 * j + 1)) 0 := by apply UInt8.toNat_inj.1; rw [UInt8.toNat_ofNat']; omega
  rw [a1, a2]
theorem TOf_all (bs : List UInt8) (P : List PutD) (n : Nat) : allPuts (TOf bs P n) = P.take (offS bs n) := by
  induction n with
  | zero => simp [TOf, allPuts, offS]
  | succ n ih =>
    have : allPuts (TOf bs P (n + 1)) = allPuts (TOf bs P n) ++ (P.drop (offS bs n)).take (bCt bs n) := by rw [TOf_succ]; simp [allPuts]
    rw [this, ih]
    simp only [offS]
    rw [List.take_add]
/-- what is read so is written so. -/
theorem dec_sound {l : List (List UInt8)} {i : Nat} (hi : i < l.length) (hd : ∀ k, k < i → dataOk l k) (hs : sameOk l i) (h2 : dK (rwL l i) = 2) (hlb : dL (rwL l i) = (putsOf l i).length) (m : MadeP (dS (rwL l i) : Int) (dB (rwL l i)) (putsOf l i)) :
    IsB l i (dS (rwL l i)) (dE (rwL l i)) (TOf (dB (rwL l i)) (putsOf l i) (bN (dB (rwL l i)))) := by
  refine ⟨hi, m.check, (dlt _).2.2.1, ?_⟩
  generalize hbs : dB (rwL l i) = bs at *
  generalize hP : putsOf l i = P at *
  have hn := m.check.len
  rw [TOf_len] at hn
  have hall : allPuts (TOf bs P (bN bs)) = P := by rw [TOf_all, m.off, List.take_length]
  have htm0 : tm (TOf bs P (bN bs)) 0 = (bFirst bs : Int) := by rw [TOf_tm _ _ _ _ (by omega)]; simp [tmS, m.first]
  have hle := (m.check.order 0 (by rw [TOf_len]; omega)).2.1
  have hF : bFirst bs = leN (bs.take 8) := by
    rw [htm0] at hle
    unfold bFirst at hle ⊢; omega
  have hlen := m.len
  have hbody : bodyB (TOf bs P (bN bs)) = bs := by
    unfold bodyB head9
    rw [TOf_len, htm0, Int.toNat_natCast, hF]
    have a1 : leB 8 (leN (bs.take 8)) = bs.take 8 := by
      have := leB_leN (bs.take 8)
      rwa [show (bs.take 8).length = 8 by simp; omega] at this
    have a2 : [UInt8.ofNat (bN bs)] = (bs.drop 8).take 1 := by
      have := range_getD bs 8 1 (by omega)
      rw [← this]
      show [UInt8.ofNat (bs.getD 8 0).toNat] = [bs.getD (8 + 0) 0]
      rw [ofNat_toNat8]
    have a3 : stepsB (TOf bs P (bN bs)) (bN bs) = (bs.drop 9).take (2 * bN bs) := by
      rw [← range_getD bs 9 (2 * bN bs) (by omega), ← range_pairs]
      unfold stepsB
      rw [List.flatMap_def, List.flatMap_def]
      congr 1
      refine List.map_congr_left fun k hk => ?_
      have hk : k < bN bs := by simpa using hk
      rw [← leB2_st]
      congr 1
      unfold stepN lastT
      by_cases e : k = 0
      · subst e; rw [if_pos rfl, m.first]; simp
      · rw [if_neg e, TOf_tm _ _ _ _ hk, TOf_tm _ _ _ _ (by omega)]
        obtain ⟨k', rfl⟩ : ∃ k', k = k' + 1 := ⟨k - 1, by omega⟩
        simp only [tmS, Nat.add_sub_cancel]; omega
    have a4 : cntsB (TOf bs P (bN bs)) (bN bs) = bs.drop (9 + 2 * bN bs) := by
      have := range_getD bs (9 + 2 * bN bs) (bN bs) (by omega)
      rw [List.take_of_length_le (by simp; omega)] at this
      rw [← this]
      unfold cntsB
      refine List.map_congr_left fun k hk => ?_
      have hk : k < bN bs := by simpa using hk
      rw [TOf_pt _ _ _ _ hk]
      have ho := offS_mono bs (show k + 1 ≤ bN bs by omega)
      rw [m.off] at ho
      have hl : ((P.drop (offS bs k)).take (bCt bs k)).length = bCt bs k := by simp only [offS] at ho; simp; omega
      rw [hl]; unfold bCt; rw [ofNat_toNat8]
    rw [a1, a2, a3, a4]
    have b1 : bs.take 8 ++ (bs.drop 8).take 1 = bs.take 9 := by rw [← List.take_add]
    have b2 : bs.take 9 ++ (bs.drop 9).take (2 * bN bs) = bs.take (9 + 2 * bN bs) := by rw [← List.take_add]
    rw [b1, b2, List.take_append_drop]
  unfold encB
  rw [hall, hbody]
  have hPl : P.length = i := by rw [← hP]; simp [putsOf]; omega
  rw [List.take_succ_eq_append_getElem hi]
  have hgi : rwL l i = l[i] := by simp [rwL, hi]
  congr 1
  · rw [← hP]
    unfold putsOf
    rw [List.map_map]
    apply List.ext_getElem
    · simp
    · intro k h1 h2'
      have hk : k < i := by simp at h1; omega
      have hkl : k < l.length := by omega
      have hgk : rwL l k = l[k] := by simp [rwL, hkl]
      obtain ⟨g, gE, gS, gK⟩ := hd k hk
      rw [hgk] at g gE gS gK
      simp only [List.getElem_take, List.getElem_map, Function.comp]
      have := g.2.2.2
      rw [gK, gE, gS, ← hs.2.1, ← hs.2.2] at this
      show _ = encOf (preL 1 (dE (rwL l i)) (dS (rwL l i)) ((dL l[k] : Int)).toNat (dB l[k]))
      rw [Int.toNat_natCast]; exact this.symm
  · have := hs.1.2.2.2
    rw [h2, hlb, hbs] at this
    rw [this, hgi]
theorem encB_put {num epoch : Nat} {T : List TxD} (c : CheckP num T) (he : epoch < 2 ^ 32) {p : PutD} (hp : p ∈ allPuts T) : good (putB epoch num p) ∧ dK (putB epoch num p) = 1 ∧ dE (putB epoch num p) = epoch ∧ dS (putB epoch num p) = num ∧ ((dL (putB epoch num p) : Int), dB (putB epoch num p)) = p := by
  obtain ⟨t, ht, hpt⟩ := List.mem_flatMap.1 hp
  obtain ⟨j, hj, rfl⟩ := List.mem_iff_getElem.1 ht
  rw [pt_get hj] at hpt
  obtain ⟨p1, p2, p3⟩ := (c.each j hj).2.2 p hpt
  have hnum := c.num
  obtain ⟨g, gk, ge, gs, gl, gb⟩ := encL_good (k := 1) (e := epoch) (s := num) (l := p.1.toNat) (bs := p.2) ⟨by omega, by omega, by omega, by omega⟩ (by omega)
  refine ⟨⟨encOf_length (by rw [preL_length]; omega), g⟩, gk, ge, gs, ?_⟩
  show ((dL (encOf (preL 1 epoch num p.1.toNat p.2)) : Int), dB (encOf (preL 1 epoch num p.1.toNat p.2))) = p
  rw [gl, gb]
  refine Prod.ext ?_ rfl
  show (p.1.toNat : Int) = p.1
  omega
theorem bodyB_get8 {T : List TxD} (hT : T.length < 256) : bN (bodyB T) = T.length := by
  unfold bN bodyB head9
  have : ((leB 8 (tm T 0).toNat ++ [UInt8.ofNat T.length] ++ stepsB T T.length ++ cntsB T T.length).getD 8 0) = UInt8.ofNat T.length := by
    rw [List.append_assoc, List.append_assoc, List.getD_eq_getElem?_getD, List.getElem?_append_right (by rw [leB_length]; omega), leB_length]; rfl
  rw [this, UInt8.toNat_ofNat']; omega
theorem bodyB_first (T : List TxD) : (bodyB T).take 8 = leB 8 (tm T 0).toNat := by
  unfold bodyB head9
  rw [List.append_assoc, List.append_assoc]
  exact List.take_left' (leB_length _ _)
theorem range_split (j q : Nat) : List.range (j + (q + 1)) = List.range j ++ (j :: List.range' (j + 1) q) := by
  have h1 : List.range' 0 j ++ List.range' (0 + j) (q + 1) = List.range' 0 (j + (q + 1)) := List.range'_append_1
  rw [List.range_eq_range', List.range_eq_range', ← h1, Nat.zero_add, List.range'_succ]
theorem bodyB_st {T : List TxD} {j : Nat} (hj : j < T.length) (hs : stepN T j < 65536) : bSt (bodyB T) j = stepN T j := by
  have key : ∀ b, b < 2 → (bodyB T).getD (9 + 2 * j + b) 0 = (leB 2 (stepN T j)).getD b 0 := by
    intro b hb
    have h1 : (bodyB T) = (head9 T ++ stepsB T j) ++ (leB 2 (stepN T j) ++ ((List.range' (j + 1) (T.length - (j + 1))).flatMap (fun k => leB 2 (stepN T k)) ++ cntsB T T.length)) := by
      unfold bodyB
      have : stepsB T T.length = stepsB T j ++ (leB 2 (stepN T j) ++ (List.range' (j + 1) (T.length - (j + 1))).flatMap (fun k => leB 2 (stepN T k))) := by
        unfold stepsB
        have : List.range T.length = List.range j ++ (j :: List.range' (j + 1) (T.length - (j + 1))) := by
          have := range_split j (T.length - (j + 1))
          rwa [show j + (T.length - (j + 1) + 1) = T.length by omega] at this
        rw [this, List.flatMap_append, List.flatMap_cons]
      rw [this]
      simp only [List.append_assoc]
    rw [h1, List.getD_eq_getElem?_getD, List.getElem?_append_right (by rw [List.length_append, head9_len, stepsB_len]; omega), List.length_append, head9_len, stepsB_len, show 9 + 2 * j + b - (9 + 2 * j) = b by omega, List.getElem?_append_left (by rw [leB_length]; omega), List.getD_eq_getElem?_getD]
  have k0 := key 0 (by omega)
  have k1 := key 1 (by omega)
  unfold bSt
  rw [show 9 + 2 * j = 9 + 2 * j + 0 by omega, k0, k1, leB2]
  simp only [List.getD_eq_getElem?_getD, List.getElem?_cons_zero, List.getElem?_cons_succ, Option.getD_some, UInt8.toNat_ofNat']
  omega
theorem bodyB_ct {T : List TxD} (hT : T.length < 256) {j : Nat} (hj : j < T.length) (hs : (pt T j).length < 256) : bCt (bodyB T) j = (pt T j).length := by
  unfold bCt
  rw [bodyB_get8 hT]
  have : (bodyB T).getD (9 + 2 * T.length + j) 0 = UInt8.ofNat (pt T j).length := by
    unfold bodyB
    rw [List.getD_eq_getElem?_getD, List.getElem?_append_right (by rw [List.length_append, head9_len, stepsB_len]; omega), List.length_append, head9_len, stepsB_len, show 9 + 2 * T.length + j - (9 + 2 * T.length) = j by omega]
    simp [cntsB, hj]
  rw [this, UInt8.toNat_ofNat']; omega
/-- what is written so is read so. -/
theorem dec_complete {l : List (List UInt8)} {i num epoch : Nat} {T : List TxD} (b : IsB l i num epoch T) :
    (∀ k, k < i → dataOk l k) ∧ sameOk l i ∧ dK (rwL l i) = 2 ∧ dL (rwL l i) = (putsOf l i).length ∧ dS (rwL l i) = num ∧ dE (rwL l i) = epoch ∧ MadeP (num : Int) (dB (rwL l i)) (putsOf l i) ∧ TOf (dB (rwL l i)) (putsOf l i) (bN (dB (rwL l i))) = T := by
  obtain ⟨hi, c, he, hrows⟩ := b
  have hnum := c.num
  have hT := c.len
  have hblk := c.blocks
  have hlen : i + 1 = blocksN T := by
    have := congrArg List.length hrows
    rw [encB_len, List.length_take] at this
    omega
  have hall := allPuts_len T
  have hia : i = (allPuts T).length := by omega
  have row : ∀ k (hk : k < i), rwL l k = putB epoch num ((allPuts T)[k]'(by omega)) := fun k hk => by
    have h1 : (l.take (i + 1))[k]? = (encB num epoch T)[k]? := by rw [hrows]
    rw [List.getElem?_take, if_pos (by omega), encB, List.getElem?_append_left (by simp; omega), List.getElem?_map, List.getElem?_eq_getElem (show k < (allPuts T).length by omega)] at h1
    unfold rwL
    rw [List.getD_eq_getElem?_getD, h1]; rfl
  have rowi : rwL l i = encOf (preL 2 epoch num (allPuts T).length (bodyB T)) := by
    have h1 : (l.take (i + 1))[i]? = (encB num epoch T)[i]? := by rw [hrows]
    rw [List.getElem?_take, if_pos (by omega), encB, List.getElem?_append_right (by simp; omega)] at h1
    unfold rwL
    rw [List.getD_eq_getElem?_getD, h1]
    simp [hia]
  have hbl := bodyB_len T
  obtain ⟨g, gk, ge, gs, gl, gb⟩ := encL_good (k := 2) (e := epoch) (s := num) (l := (allPuts T).length) (bs := bodyB T) ⟨by omega, by omega, by omega, by omega⟩ (by omega)
  rw [← rowi] at g gk ge gs gl gb
  have g64 : (rwL l i).length = 64 := by rw [rowi]; exact encOf_length (by rw [preL_length]; omega)
  have facts : ∀ k (hk : k < i), good (rwL l k) ∧ dK (rwL l k) = 1 ∧ dE (rwL l k) = epoch ∧ dS (rwL l k) = num ∧ ((dL (rwL l k) : Int), dB (rwL l k)) = (allPuts T)[k]'(by omega) := fun k hk => by
    rw [row k hk]
    exact encB_put c he (List.getElem_mem _)
  have e0 : dE (rwL l 0) = epoch ∧ dS (rwL l 0) = num := by
    rcases Nat.eq_zero_or_pos i with h0 | h0
    · rw [h0] at ge gs; exact ⟨ge, gs⟩
    · have := facts 0 h0; exact ⟨this.2.2.1, this.2.2.2.1⟩
  have hputs : putsOf l i = allPuts T := by
    unfold putsOf
    apply List.ext_getElem
    · simp; omega
    · intro k h1 h2
      have hk : k < i := by simp at h1; omega
      have := (facts k hk).2.2.2.2
      simp only [List.getElem_map, List.getElem_take]
      rw [← this]
      simp [rwL, show k < l.length by omega]
  have hT256 : T.length < 256 := by omega
  have hstep : ∀ j, j < T.length → bSt (bodyB T) j = stepN T j := fun j hj => by
    have := lastT_step c hj
    exact bodyB_st hj (by unfold stepN; omega)
  have hcnt : ∀ j, j < T.length → bCt (bodyB T) j = (pt T j).length := fun j hj => bodyB_ct hT256 hj (by have := (c.each j hj).2.1; omega)
  have hF : bFirst (bodyB T) = (tm T 0).toNat := by
    have h1 : 0 < tm T 0 := prev_le c.order (by omega)
    have h2 := (c.order 0 (by omega)).2.1
    unfold bFirst
    rw [bodyB_first, leN_leB, Nat.mod_eq_of_lt (by omega)]; omega
  have htms : ∀ j, j < T.length → (tmS (bodyB T) (j + 1) : Int) = tm T j := by
    intro j
    induction j with
    | zero =>
      intro hj
      have h1 : 0 < tm T 0 := prev_le c.order hj
      simp only [tmS, hF, hstep 0 hj, stepN, lastT, if_true]; omega
    | succ j ih =>
      intro hj
      have h1 := ih (by omega)
      have h2 := lastT_step c hj
      have h3 : lastT T (j + 1) = tm T j := by simp [lastT]
      rw [tmS, hstep _ hj]
      unfold stepN
      rw [h3] at h2 ⊢
      omega
  have hoff : ∀ j, j ≤ T.length → offS (bodyB T) j = (allPuts (T.take j)).length := by
    intro j
    induction j with
    | zero => intro _; simp [offS, allPuts]
    | succ j ih => intro hj; rw [offS, ih (by omega), hcnt j (by omega), allPuts_take (by omega), List.length_append]
  have hTOf : TOf (bodyB T) (allPuts T) T.length = T := by
    apply List.ext_getElem
    · rw [TOf_len]
    · intro j h1 h2
      have hj : j < T.length := h2
      simp only [TOf, List.getElem_map, List.getElem_range]
      refine Prod.ext ?_ ?_
      · show (tmS (bodyB T) (j + 1) : Int) = T[j].1
        rw [htms j hj, tm_get hj]
      · show ((allPuts T).drop (offS (bodyB T) j)).take (bCt (bodyB T) j) = T[j].2
        rw [hoff j (by omega), hcnt j hj, pt_get hj]
        have : allPuts T = allPuts (T.take j) ++ (pt T j ++ allPuts (T.drop (j + 1))) := by
          conv => lhs; rw [← List.take_append_drop j T, List.drop_eq_getElem_cons hj]
          unfold allPuts
          rw [List.flatMap_append, List.flatMap_cons, pt_get hj]
        rw [this, List.drop_left' rfl, List.take_left' rfl]
  rw [hputs, gb, bodyB_get8 hT256, hTOf]
  refine ⟨fun k hk => ⟨(facts k hk).1, by rw [(facts k hk).2.2.1, e0.1], by rw [(facts k hk).2.2.2.1, e0.2], (facts k hk).2.1⟩, ⟨⟨g64, g⟩, by rw [ge, e0.1], by rw [gs, e0.2]⟩, gk, gl, gs, ge, ⟨?_, ?_, ?_, ?_⟩, rfl⟩
  · rw [bodyB_get8 hT256]; exact hbl
  · rw [hstep 0 (by omega)]; simp [stepN, lastT]
  · rw [bodyB_get8 hT256, hoff _ (Nat.le_refl _), List.take_length]
  · rw [bodyB_get8 hT256, hTOf]; exact c
theorem isB_unique {l : List (List UInt8)} {i i' num num' epoch epoch' : Nat} {T T' : List TxD} (b : IsB l i num epoch T) (b' : IsB l i' num' epoch' T') : i = i' ∧ num = num' ∧ epoch = epoch' ∧ T = T' := by
  obtain ⟨d1, s1, k1, l1, n1, e1, m1, t1⟩ := dec_complete b
  obtain ⟨d2, s2, k2, l2, n2, e2, m2, t2⟩ := dec_complete b'
  have hii : i = i' := by
    rcases Nat.lt_trichotomy i i' with h | h | h
    · have := (d2 i h).2.2.2; omega
    · exact h
    · have := (d1 i' h).2.2.2; omega
  subst hii
  exact ⟨rfl, by omega, by omega, by rw [← t1, ← t2]⟩

end Go.Proofs.Ytehhkjgcklhfcaa
