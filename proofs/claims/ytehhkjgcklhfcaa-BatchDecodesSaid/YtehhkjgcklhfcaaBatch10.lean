/-
  The document's own reading of a batch: DecodeBatch.
-/
import Derived.Test.YtehhkjgcklhfcaaBatch9
namespace Go.Proofs.Ytehhkjgcklhfcaa
set_option linter.unusedVariables false
set_option linter.unusedSimpArgs false

structure OwnD (lo : Nat) (h : Hp) (t : Sl) (D : List BlkD) : Prop where
  own : Own lo 5 h t (c5 D)
  each : ∀ x ∈ D, Rd 1 h x.2 ((dB x.1).map bv)
  base : ∀ x ∈ D, ∀ a, x.2.base = some a → lo ≤ a.block ∧ a.block < h.size ∧ ∀ a', t.base = some a' → a.block ≠ a'.block
theorem OwnD.nil (lo : Nat) (h : Hp) : OwnD lo h Sl.nil [] := ⟨Own.nil _ _ _, fun p hp => by simp at hp, fun p hp => by simp at hp⟩
theorem OwnD.len {lo : Nat} {h : Hp} {t : Sl} {D : List BlkD} (o : OwnD lo h t D) : t.len = D.length := by
  have := o.own.len; rw [c5_length] at this; omega
theorem OwnD.ext {lo : Nat} {h h' : Hp} {t : Sl} {D : List BlkD} (o : OwnD lo h t D) (e : Ext h h') : OwnD lo h' t D :=
  ⟨o.own.ext e, fun x hx => (o.each x hx).ext e, fun x hx a ha => ⟨(o.base x hx a ha).1, by have := (o.base x hx a ha).2.1; have := e.size; omega, (o.base x hx a ha).2.2⟩⟩
theorem OwnD.push {lo e ty : Nat} {h h1 : Hp} {t u : Sl} {D : List BlkD} {p : List UInt8} {zc : Array Value} {K : Sl → Hp → Prop} (hz : zc.size = 5) (o : OwnD lo h t D) (hlo : lo ≤ h.size) (e1 : Ext h h1) (ou : Own h.size 1 h1 u ((dB p).map bv))
    (hb : D.length ≤ 1000000000)
    (hK : ∀ r h', OwnD lo h' r (D ++ [(p, u)]) → Keep lo h1 h' → K r h') :
    AppC e 5 56 zc t (Sl.mk (some (nw h1)) 1 1) (alc h1 (blkV (dK p) (dE p) (dS p) (dL p) u) ty) K := by
  have hlen := o.len
  have s1 := e1.size
  refine AppC_own5 (news := blkV (dK p) (dE p) (dS p) (dL p) u) (l := c5 D) hz ((o.own.ext e1).ext (alc_ext h1 _ ty)) (by rw [size_alc]; omega) rfl (RdC.alc h1 _ ty) (blkV_ok _ _ _ _ _) (by rw [hlen]; simp only; omega) (by rw [hlen]; simp only; omega) fun r h' o' l' k' x' b' => ?_
  have s2 : (alc h1 (blkV (dK p) (dE p) (dS p) (dL p) u) ty).size = h1.size + 1 := size_alc _ _ _
  have same : ∀ b, b < h1.size → (∀ a, t.base = some a → b ≠ a.block) → h'[b]? = h1[b]? := fun b hb hne => by rw [x' b (by omega) hne, alc_old _ _ _ hb]
  have hsz := k'.size
  have hrb : ∀ a', r.base = some a' → t.base = some a' ∨ h1.size ≤ a'.block := fun a' ha' => by
    rcases b' a' ha' with h | h
    · exact .inl h
    · exact .inr (by omega)
  refine hK r h' ⟨?_, fun x hx => ?_, fun x hx a ha => ?_⟩ ⟨by omega, fun b hb => by rw [k'.block b hb, alc_old _ _ _ (by omega)]⟩
  · rw [c5_append]
    have : c5 [(p, u)] = blkV (dK p) (dE p) (dS p) (dL p) u := by simp [c5]
    rw [this]; exact o'
  · rcases List.mem_append.1 hx with hx | hx
    · exact ((o.each x hx).ext e1).eq fun a ha => same _ (by have := (o.base x hx a ha).2.1; omega) (o.base x hx a ha).2.2
    · simp only [List.mem_cons, List.not_mem_nil, or_false] at hx
      subst hx
      exact ou.toRd.eq fun a ha => same _ (ou.lt ha).2 fun a' ha' => by
        have := (ou.lt ha).1
        have := (o.own.lt ha').2
        omega
  · rcases List.mem_append.1 hx with hx | hx
    · obtain ⟨q1, q2, q3⟩ := o.base x hx a ha
      refine ⟨q1, by omega, fun a' ha' => ?_⟩
      rcases hrb a' ha' with h | h
      · exact q3 a' h
      · omega
    · simp only [List.mem_cons, List.not_mem_nil, or_false] at hx
      subst hx
      obtain ⟨q1, q2⟩ := ou.lt ha
      refine ⟨by omega, by omega, fun a' ha' => ?_⟩
      rcases hrb a' ha' with h | h
      · have := (o.own.lt h).2; omega
      · omega
/-- what is a batch could be made. -/
theorem isB_cond {l : List (List UInt8)} {i num epoch : Nat} {T : List TxD} (b : IsB l i num epoch T) : CondM (dB (rwL l i)) (putsOf l i) := by
  obtain ⟨_, _, _, _, _, _, m, _⟩ := dec_complete b
  have hn := m.check.len
  rw [TOf_len] at hn
  have h0 := (m.check.order 0 (by rw [TOf_len]; omega)).2.1
  rw [TOf_tm _ _ _ _ (by omega)] at h0
  have h1 : tmS (dB (rwL l i)) (0 + 1) = bFirst (dB (rwL l i)) := by simp [tmS, m.first]
  rw [h1] at h0
  refine ⟨by have := m.len; omega, hn.1, m.len, ?_, m.off⟩
  unfold bFirst at h0; omega

/-- a heap with one block left out. -/
def without (z : Nat) (h : Hp) : Hp := h.setIfInBounds z (.cells #[] 0 (0, 0))
theorem without_at {z b : Nat} {h : Hp} (hb : b ≠ z) : (without z h)[b]? = h[b]? := by unfold without; rw [Array.getElem?_setIfInBounds_ne (Ne.symm hb)]
theorem sub_without {z : Nat} {h h' : Hp} (e : ∀ b, b < h.size → b ≠ z → h'[b]? = h[b]?) : Sub (without z h) h' := by
  intro a v hc
  by_cases hz : a.block = z
  · exfalso
    have hlt := hcell_lt hc
    have hs : (without z h).size = h.size := by simp [without]
    have : (without z h)[a.block]? = some (.cells #[] 0 (0, 0)) := by unfold without; rw [Array.getElem?_setIfInBounds]; simp [hz]; omega
    simp [hcell, hw, World.cell?, this] at hc
  · have hlt := hcell_lt hc
    have hs : (without z h).size = h.size := by simp [without]
    rw [← hc]; exact hcell_eq (by rw [e _ (by omega) hz, without_at hz])
theorem rDecode_spec {h : Hp} {s : Sl} {rows : List (Sl × List UInt8)} (w : RowsR h s rows) (hmax : rows.length ≤ 1000000) : HCalls Try.prog fn_scarpref11_DecodeBatch #[.slice s.base s.len s.cap] h (BDecA h (rows.map (·.2))) := by
  apply scarpref11_DecodeBatch_vc
  unfold vcscarpref11_DecodeBatch
  intro h1
  have e1 : Ext h h1 := alc_ext _ _ _
  have s1 : h1.size = h.size + 1 := size_alc _ _ _
  have r1 : Row h1 h.size [.int .i64 (0 : Int), .slice Sl.nil.base Sl.nil.len Sl.nil.cap] := Row.alc _ _ _
  have hll : (rows.map (·.2)).length = rows.length := by simp
  have hrow : ∀ k (hk : k < rows.length), rwL (rows.map (·.2)) k = rows[k].2 := fun k hk => rwL_get hk
  generalize hL : rows.map (·.2) = l at *
  have out : ∀ {hX : Hp} (err : Int), Ext h hX → Row hX h.size [.int .i64 (0 : Int), .slice Sl.nil.base Sl.nil.len Sl.nil.cap] → (((∀ i, i < l.length → dataOk l i) ∧ err = 14) ∨ ((¬ ∃ i nm e T, IsB l i nm e T) ∧ (∃ i, i < l.length ∧ ¬ dataOk l i) ∧ err = 13)) →
      stCells (nw h) 0 [.int .i64 (0 : Int), .slice Sl.nil.base Sl.nil.len Sl.nil.cap] hX fun vh5 =>
        ∃ x : Int, ∃ x1 : Sl, hcell vh5 ((nw h)) = some (.int .i64 x) ∧ hcell vh5 ((nw h).add 1) = some (.slice x1.base x1.len x1.cap) ∧
        BDecA h l (.tuple #[.agg #[.int .i64 x, .slice x1.base x1.len x1.cap], .int .i64 (0 : Int), .int .i64 (0 : Int), .int .i64 err]) vh5 := by
    intro hX err eX rX hc
    refine rX.put (vs := [.int .i64 (0 : Int), .slice Sl.nil.base Sl.nil.len Sl.nil.cap]) rfl (by intro v hv; simp at hv; rcases hv with rfl | rfl <;> rfl) fun h' r' s' o' => r'.get2s ⟨⟨by have := eX.size; omega, fun b hb => by rw [o' b (by omega), eX.block b hb]⟩, 0, Sl.nil, 0, 0, err, rfl, ?_⟩
    rcases hc with ⟨h1, h2⟩ | ⟨h1, h2, h3⟩
    · exact .inl ⟨h1, h2, rfl, rfl, rfl, rfl⟩
    · exact .inr (.inl ⟨h1, h2, h3, rfl, rfl, rfl, rfl⟩)
  refine ⟨fun data i m h' => ∃ (j : Nat) (D : List BlkD), i = j ∧ m + j = rows.length ∧ Ext h1 h' ∧ OwnD (h.size + 1) h' data D ∧ D.map (·.1) = l.take j ∧ ∀ k, k < j → dataOk l k, rows.length,
    ⟨0, [], rfl, rfl, .refl _, OwnD.nil _ _, rfl, fun k hk => by omega⟩, ?_⟩
  rintro _ data _ m h2 ⟨j, D, rfl, hm, e2, oD, hD, hd⟩
  have e02 := e1.trans e2
  have s2 := e2.size
  have hDl : D.length = min j rows.length := by have := congrArg List.length hD; simpa [hll] using this
  refine IfB.dec (fun hlt => ?_) (fun hge => ?_)
  · have hj : j < rows.length := by have := w.len; omega
    have hmem : rows[j] ∈ rows := List.getElem_mem hj
    refine ixS (w.rd.ext e02) w.len j rfl hj ?_
    refine (refDecode_spec ((w.each _ hmem).ext e02)).mono ?_
    have hpj : rows[j].2 = rwL l j := (hrow j hj).symm
    rw [hpj]
    rintro v3 h3 d3
    obtain ⟨e3, k, e, sq, lba, t, c, rfl, dn, db, dg⟩ := d3.shape
    refine ⟨_, _, _, _, t, c, rfl, ?_⟩
    intro h4
    refine put5 fun h5 e5 r5 => ?_
    have e35 := e3.trans e5
    have e05 := e02.trans e35
    have r15 : Row h5 h.size [.int .i64 (0 : Int), .slice Sl.nil.base Sl.nil.len Sl.nil.cap] := (r1.ext e2).ext e35
    have hDj : D.length = j := by omega
    have hdat : data.len = j := by have := oD.len; omega
    -- the first of the blocks that stand behind it
    have first : ∀ {hX : Hp} {K : Addr → Prop}, Ext h2 hX → 0 < j → (∀ a, hcell hX ((a.add ((0 : Int).toNat * 5)).add 1) = some (.int .i64 (dE (rwL l 0) : Int)) → hcell hX ((a.add ((0 : Int).toNat * 5)).add 2) = some (.int .i64 (dS (rwL l 0) : Int)) → K a) → ∃ a : Addr, data.base = some a ∧ 0 ≤ (0 : Int) ∧ (0 : Int) < (data.len : Int) ∧ K a := fun {hX K} eX hj0 hK => by
      have h0 : 0 < D.length := by omega
      have hD0 : D[0].1 = rwL l 0 := by
        have : (D.map (·.1))[0]? = (l.take j)[0]? := by rw [hD]
        rw [List.getElem?_map, List.getElem?_eq_getElem h0, List.getElem?_take, if_pos hj0] at this
        simp only [Option.map_some] at this
        unfold rwL
        rw [List.getD_eq_getElem?_getD, ← this]; rfl
      exact ix5 (oD.own.toRd.ext eX) 0 rfl h0 fun a g1 g2 _ _ => by rw [hD0] at g1 g2; exact hK a g1 g2
    have bad : (¬ sameOk l j ∨ ¬ (dK (rwL l j) = 1 ∨ dK (rwL l j) = 2)) → stCells (nw h) 0 [.int .i64 (0 : Int), .slice Sl.nil.base Sl.nil.len Sl.nil.cap] h5 fun vh5 =>
        ∃ x : Int, ∃ x1 : Sl, hcell vh5 ((nw h)) = some (.int .i64 x) ∧ hcell vh5 ((nw h).add 1) = some (.slice x1.base x1.len x1.cap) ∧
        BDecA h l (.tuple #[.agg #[.int .i64 x, .slice x1.base x1.len x1.cap], .int .i64 (0 : Int), .int .i64 (0 : Int), .int .i64 (13 : Int)]) vh5 := fun hb => by
      have hno : ¬ dataOk l j := fun hk => by
        rcases hb with hb | hb
        · exact hb ⟨hk.1, hk.2.1, hk.2.2.1⟩
        · exact hb (.inl hk.2.2.2)
      refine out 13 e05 r15 (.inr ⟨?_, ⟨j, by omega, hno⟩, rfl⟩)
      rintro ⟨i', nm, ep, T, b⟩
      obtain rfl := noB hd hno b
      obtain ⟨_, c2, c3, _⟩ := dec_complete b
      rcases hb with hb | hb
      · exact hb c2
      · exact hb (.inr c3)
    refine ⟨fun h' => h5 = h' ∧ c = 0 ∧ sameOk l j ∧ (dK (rwL l j) = 1 ∨ dK (rwL l j) = 2), ?_, ?_⟩
    · refine IfB.ne (fun hne => bad (.inl fun hs => hne (dg hs.1.1 hs.1.2).1)) (fun h0 => ?_)
      have hg : good (rwL l j) := by
        by_cases h64 : (rwL l j).length = 64
        · by_cases hg : goodP (rwL l j)
          · exact ⟨h64, hg⟩
          · have := db h64 hg; omega
        · have := dn h64; omega
      obtain ⟨_, rfl, rfl, rfl, rfl, ot⟩ := dg hg.1 hg.2
      have rest : (dK (rwL l j) = 1 ∨ dK (rwL l j) = 2) → IfB (decide ((j : Int) > (0 : Int))) (∃ c9 : Int, hcell h5 ((nw h3).add 1) = some (.int .i64 c9) ∧
              ∃ a1 : Addr, data.base = some a1 ∧ 0 ≤ (0 : Int) ∧ (0 : Int) < (data.len : Int) ∧
              ∃ c10 : Int, hcell h5 ((a1.add (((0 : Int)).toNat * 5)).add 1) = some (.int .i64 c10) ∧
              IfB (c9 != c10) (stCells (nw h) 0 [.int .i64 (0 : Int), .slice Sl.nil.base Sl.nil.len Sl.nil.cap] h5 fun vh7 =>
                ∃ x4 : Int, ∃ x5 : Sl, hcell vh7 ((nw h)) = some (.int .i64 x4) ∧ hcell vh7 ((nw h).add 1) = some (.slice x5.base x5.len x5.cap) ∧
                BDecA h l (.tuple #[.agg #[.int .i64 x4, .slice x5.base x5.len x5.cap], .int .i64 (0 : Int), .int .i64 (0 : Int), .int .i64 (13 : Int)]) vh7)
              (∃ c11 : Int, hcell h5 ((nw h3).add 2) = some (.int .i64 c11) ∧
                ∃ a2 : Addr, data.base = some a2 ∧ 0 ≤ (0 : Int) ∧ (0 : Int) < (data.len : Int) ∧
                ∃ c12 : Int, hcell h5 ((a2.add (((0 : Int)).toNat * 5)).add 2) = some (.int .i64 c12) ∧
                IfB (c11 != c12) (stCells (nw h) 0 [.int .i64 (0 : Int), .slice Sl.nil.base Sl.nil.len Sl.nil.cap] h5 fun vh8 =>
                  ∃ x6 : Int, ∃ x7 : Sl, hcell vh8 ((nw h)) = some (.int .i64 x6) ∧ hcell vh8 ((nw h).add 1) = some (.slice x7.base x7.len x7.cap) ∧
                  BDecA h l (.tuple #[.agg #[.int .i64 x6, .slice x7.base x7.len x7.cap], .int .i64 (0 : Int), .int .i64 (0 : Int), .int .i64 (13 : Int)]) vh8)
                (h5 = h5 ∧ c = 0 ∧ sameOk l j ∧ (dK (rwL l j) = 1 ∨ dK (rwL l j) = 2))))
            (h5 = h5 ∧ c = 0 ∧ sameOk l j ∧ (dK (rwL l j) = 1 ∨ dK (rwL l j) = 2)) := fun hk => by
        refine IfB.dec (fun hpos => ?_) (fun hz => ?_)
        · refine ⟨_, r5.get rfl, first e35 (by omega) fun a g1 _ => ⟨_, g1, IfB.ne (fun hne => bad (.inl fun hs => hne (by rw [hs.2.1]))) (fun heq => ⟨_, r5.get rfl, first e35 (by omega) fun a _ g2 => ⟨_, g2, IfB.ne (fun hne => bad (.inl fun hs => hne (by rw [hs.2.2]))) (fun heq2 => ⟨rfl, h0, ⟨hg, by omega, by omega⟩, hk⟩)⟩⟩)⟩⟩
        · have : j = 0 := by omega
          subst this
          exact ⟨rfl, h0, ⟨hg, rfl, rfl⟩, hk⟩
      refine ⟨_, r5.get0 rfl, IfB.ne (fun hk1 => ⟨_, r5.get0 rfl, IfB.ne (fun hk2 => bad (.inr fun hk => ?_)) (fun hk2 => rest (.inr (by omega)))⟩) (fun hk1 => rest (.inl (by omega)))⟩
      rcases hk with hk | hk <;> omega
    rintro _ _ ⟨rfl, h0, hs, hk⟩
    obtain ⟨_, rfl, rfl, rfl, rfl, ot⟩ := dg hs.1.1 hs.1.2
    refine ⟨_, r5.get0 rfl, IfB.eq (fun hk1 => ?_) (fun hk1 => ?_)⟩
    · refine r5.get5 ?_
      intro h6
      refine OwnD.push rfl (oD) (by omega) e35 (ot.ext e5) (by omega) fun r h7 o7 k7 => ?_
      refine ⟨m - 1, by omega, j + 1, D ++ [(rwL l j, t)], by rw [iAdd64 (by omega)]; push_cast; rfl, by omega, ?_, o7, ?_, fun x hx => ?_⟩
      · exact ⟨by have := k7.size; have := e35.size; omega, fun b hb => by rw [k7.block b (by omega), e35.block b (by omega), e2.block b hb]⟩
      · rw [List.map_append, hD, List.take_succ_eq_append_getElem (by omega)]
        simp [rwL, show j < l.length by omega]
      · by_cases e : x = j
        · subst e; exact ⟨hs.1, hs.2.1, hs.2.2, by omega⟩
        · exact hd x (by omega)
    · have hk2 : dK (rwL l j) = 2 := by omega
      have hno : ¬ dataOk l j := fun hk => by have := hk.2.2.2; omega
      have hputs : putsD D = putsOf l j := by
        unfold putsD putsOf; rw [← hD, List.map_map]; rfl
      have s35 := e35.size
      refine r5.get5 ?_
      have hbl : (dB (rwL l j)).length ≤ 1000 := by
        have := hs.1.1
        have h1 : (dB (rwL l j)).length ≤ (rwL l j).length := by
          unfold dB; simp [List.length_take, List.length_drop]; omega
        omega
      refine (rMade_spec (b0 := h.size + 1) (D := D) (bs := dB (rwL l j)) (dK (rwL l j)) (dE (rwL l j)) (dS (rwL l j)) (dL (rwL l j)) (oD.own.toRd.ext e35) (fun x hx => ⟨(oD.each x hx).ext e35, fun a ha => ⟨(oD.base x hx a ha).1, by have := (oD.base x hx a ha).2.1; omega⟩⟩) (by omega) (ot.toRd.ext e5) (by omega) hbl).mono ?_
      rintro _ h6 ⟨e6, num, t2, ok, rfl, hok, hT⟩
      rw [hputs] at hok hT
      refine ⟨num, t2, ok, rfl, ?_⟩
      intro h7
      refine loc2 rfl rfl fun h8 e8 r8 => ?_
      have e58 := e6.trans e8
      have noIs : ∀ {P : Prop}, (∀ nm ep T, IsB l j nm ep T → P) → ¬ P → ¬ ∃ i nm e T, IsB l i nm e T := fun hP hn ⟨i', nm, ep, T, b⟩ => by
        obtain rfl := noB hd hno b
        exact hn (hP _ _ _ b)
      have rr8 : Row h8 h.size [.int .i64 (0 : Int), .slice Sl.nil.base Sl.nil.len Sl.nil.cap] := r15.ext e58
      have e08 := e05.trans e58
      refine IfB.not (IfB.intro (fun hokt => ?_) (fun hokf => out 13 e08 rr8 (.inr ⟨noIs (P := ok = true) (fun nm ep T b => hok.2 (isB_cond b)) (by rw [hokf]; simp), ⟨j, by omega, hno⟩, rfl⟩)))
      obtain ⟨rfl, tx⟩ := hT hokt
      refine r8.get2s ⟨_, (r5.ext e58).get rfl, ?_⟩
      have tx8 := tx.ext e8
      have s8 := e8.size
      have hP : ∀ x, (pt (TOf (dB (rwL l j)) (putsOf l j) (bN (dB (rwL l j)))) x).length ≤ 1000000 := fun x => by
        by_cases hx : x < bN (dB (rwL l j))
        · rw [TOf_pt _ _ _ _ hx]
          have : (putsOf l j).length ≤ 1000000 := by simp [putsOf]; omega
          simp only [List.length_take, List.length_drop]; omega
        · unfold pt; rw [List.getD_eq_getElem?_getD, List.getElem?_eq_none (by rw [TOf_len]; omega)]; simp
      refine (rEncode_spec (dS (rwL l j)) (dE (rwL l j)) (tx8.mono fun b hb => by omega) hP).mono ?_
      rintro _ h9 ⟨e9, ⟨hn, rfl⟩ | ⟨⟨ck, _, _⟩, t9, rows9, rfl, o9, q9⟩⟩
      · have he := (dlt (rwL l j)).2.2.1
        refine ⟨Sl.nil, _, rfl, .yes rfl (out 13 (e08.trans e9) (rr8.ext e9) (.inr ⟨noIs (fun nm ep T b => ?_) hn, ⟨j, by omega, hno⟩, rfl⟩))⟩
        obtain ⟨_, _, _, _, d5, d6, m7, d8⟩ := dec_complete b
        have := m7.check
        rw [← d5] at this
        exact ⟨this, by omega, by omega⟩
      rw [Int.toNat_natCast, Int.toNat_natCast] at q9
      have e09 := e08.trans e9
      have hol := o9.len
      have heq : ∀ nm ep T, IsB l j nm ep T → rows9.map (·.2) = l.take (j + 1) := fun nm ep T b => by
        obtain ⟨_, _, _, _, d5, d6, m7, d8⟩ := dec_complete b
        rw [q9, d8, b.rows, d5, d6]
      refine ⟨t9, _, rfl, .no rfl ?_⟩
      have ej : iAdd .i64 (j : Int) (1 : Int) = ((j + 1 : Nat) : Int) := by rw [iAdd64 (by omega)]; push_cast; rfl
      rw [ej]
      refine IfB.ne (fun hne => out 13 e09 (rr8.ext e9) (.inr ⟨noIs (P := rows9.length = j + 1) (fun nm ep T b => by have := congrArg List.length (heq nm ep T b); simp at this; omega) (by omega), ⟨j, by omega, hno⟩, rfl⟩)) (fun hlen => ?_)
      refine ⟨fun k m h' => ∃ x : Nat, k = x ∧ m + x = j + 1 ∧ h9 = h' ∧ ∀ y (hy : y < rows9.length), y < x → rows9[y].2 = rwL l y, j + 1, ⟨0, rfl, rfl, rfl, fun y _ hy => by omega⟩, ?_⟩
      rintro _ _ m10 _ ⟨x, rfl, hmx, rfl, hx⟩
      refine IfB.dec (fun hle => ?_) (fun hgt => ?_)
      · have hx9 : x < rows9.length := by omega
        have hxr : x < rows.length := by omega
        refine ixS o9.own.rd hol x rfl hx9 ?_
        refine ixS (w.rd.ext e09) w.len x rfl hxr ?_
        have rdA := o9.each _ (List.getElem_mem hx9)
        have rdB := (w.each _ (List.getElem_mem hxr)).ext e09
        have hrx := hrow x hxr
        have nope : rows9[x].2 ≠ rows[x].2 → ¬ ∃ i nm e T, IsB l i nm e T := fun hne => noIs (P := rows9[x].2 = rows[x].2) (fun nm ep T b => by
          have h1 := heq nm ep T b
          have h2 : (rows9.map (·.2))[x]? = (l.take (j + 1))[x]? := by rw [h1]
          rw [List.getElem?_map, List.getElem?_eq_getElem hx9, List.getElem?_take, if_pos (by omega), List.getElem?_eq_getElem (show x < l.length by omega)] at h2
          simp only [Option.map_some, Option.some.injEq] at h2
          rw [h2, ← hrx]
          simp [rwL, show x < l.length by omega]) hne
        have nxt : rows9[x].2 = rows[x].2 → ∃ n5, n5 < m10 ∧ ∃ x' : Nat, iAdd .i64 (x : Int) (1 : Int) = x' ∧ n5 + x' = j + 1 ∧ h9 = h9 ∧ ∀ y (hy : y < rows9.length), y < x' → rows9[y].2 = rwL l y := fun he => ⟨m10 - 1, by omega, x + 1, by rw [iAdd64 (by omega)]; push_cast; rfl, by omega, rfl, fun y hy hyx => by
          by_cases e : y = x
          · subst e; rw [hrx, he]
          · exact hx y hy (by omega)⟩
        exact ⟨strNeE rdA rdB (fun hne => out 13 e09 (rr8.ext e9) (.inr ⟨nope hne, ⟨j, by omega, hno⟩, rfl⟩)) nxt, strNe' rdA rdB (fun hne => out 13 e09 (rr8.ext e9) (.inr ⟨nope hne, ⟨j, by omega, hno⟩, rfl⟩)) nxt⟩
      · have hxj : x = j + 1 := by omega
        subst hxj
        have isb : IsB l j (dS (rwL l j)) (dE (rwL l j)) (TOf (dB (rwL l j)) (putsOf l j) (bN (dB (rwL l j)))) := by
          refine ⟨by omega, ck, (dlt _).2.2.1, ?_⟩
          rw [← q9]
          apply List.ext_getElem
          · simp; omega
          · intro y h1 h2
            have hy : y < rows9.length := by simpa using h2
            rw [List.getElem_map, hx y hy (by omega), List.getElem_take]
            simp [rwL, show y < l.length by omega]
        have s58 := e6.size
        have s3 := e3.size
        refine ⟨without h.size h9, sub_without fun b _ _ => rfl, ?_⟩
        refine ((r8.ext e9).eq (without_at (by omega))).get2s ⟨_, (((r5.ext e58).ext e9).eq (without_at (by omega))).get rfl, ?_⟩
        refine (rr8.ext e9).put (vs := [.int .i64 (dS (rwL l j) : Int), .slice t2.base t2.len t2.cap]) rfl (by intro v hv; simp at hv; rcases hv with rfl | rfl <;> rfl) fun h10 r10 s10 o10 => ?_
        refine ⟨sub_without fun b _ hb => o10 b hb, r10.get2s ⟨?_, _, _, _, _, _, rfl, .inr (.inr ⟨j, _, _, _, isb, rfl, rfl, rfl, rfl, ?_⟩)⟩⟩
        · have := e09.size
          exact ⟨by omega, fun b hb => by rw [o10 b (by omega), e09.block b hb]⟩
        · have := e9.size
          exact ((tx8.ext e9).eq (h' := h10) fun b hb => o10 b (by omega)).mono fun b hb => by omega
  · have hjl : j = rows.length := by have := w.len; omega
    subst hjl
    exact out 14 e02 (r1.ext e2) (.inl ⟨fun i hi => hd i (by omega), rfl⟩)

end Go.Proofs.Ytehhkjgcklhfcaa
