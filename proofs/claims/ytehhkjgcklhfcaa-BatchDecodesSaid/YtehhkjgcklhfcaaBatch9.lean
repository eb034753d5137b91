/-
  The document's own reading of a batch: made.
-/
import Derived.Test.YtehhkjgcklhfcaaBatch8
import Derived.Test.YtehhkjgcklhfcaaBatch6
import Derived.Test.YtehhkjgcklhfcaaFrame4
namespace Go.Proofs.Ytehhkjgcklhfcaa
set_option linter.unusedVariables false
set_option linter.unusedSimpArgs false

abbrev BlkD := List UInt8 × Sl
def c5 (D : List BlkD) : List Value := D.flatMap fun x => blkV (dK x.1) (dE x.1) (dS x.1) (dL x.1) x.2
theorem c5_cons (x : BlkD) (D : List BlkD) : c5 (x :: D) = blkV (dK x.1) (dE x.1) (dS x.1) (dL x.1) x.2 ++ c5 D := rfl
theorem c5_length : ∀ D, (c5 D).length = D.length * 5
  | [] => rfl
  | x :: D => by rw [c5_cons, List.length_append, c5_length D]; simp only [blkV, List.length_cons, List.length_nil]; omega
theorem c5_append (a b : List BlkD) : c5 (a ++ b) = c5 a ++ c5 b := by simp [c5]
theorem c5_get : ∀ (D : List BlkD) (i j : Nat), j < 5 → (c5 D)[i * 5 + j]? = (D[i]?).bind fun x => (blkV (dK x.1) (dE x.1) (dS x.1) (dL x.1) x.2)[j]?
  | [], i, j, _ => by simp [c5]
  | x :: D, 0, j, h => by rw [c5_cons, List.getElem?_append_left (by simp only [blkV, List.length_cons, List.length_nil]; omega)]; simp
  | x :: D, i + 1, j, h => by
    rw [c5_cons, List.getElem?_append_right (by simp only [blkV, List.length_cons, List.length_nil]; omega), show (i + 1) * 5 + j - (blkV (dK x.1) (dE x.1) (dS x.1) (dL x.1) x.2).length = i * 5 + j by simp only [blkV, List.length_cons, List.length_nil]; omega, c5_get D i j h]; simp
theorem c5_ok (D : List BlkD) : ∀ v ∈ c5 D, cellOk v = true := by
  intro v hv
  obtain ⟨p, _, h⟩ := List.mem_flatMap.1 hv
  exact blkV_ok _ _ _ _ _ v h
theorem ix5 {h : Hp} {s : Sl} {D : List BlkD} (r : Rd 5 h s (c5 D)) {i : Int} (k : Nat) (hi : i = k) (hk : k < D.length) {K : Addr → Prop}
    (hK : ∀ a, hcell h ((a.add (i.toNat * 5)).add 1) = some (.int .i64 (dE D[k].1 : Int)) → hcell h ((a.add (i.toNat * 5)).add 2) = some (.int .i64 (dS D[k].1 : Int)) → hcell h ((a.add (i.toNat * 5)).add 3) = some (.int .i64 (dL D[k].1 : Int)) → hcell h ((a.add (i.toNat * 5)).add 4) = some (.slice D[k].2.base D[k].2.len D[k].2.cap) → K a) : ∃ a : Addr, s.base = some a ∧ 0 ≤ i ∧ i < (s.len : Int) ∧ K a := by
  subst hi
  have hl := r.len
  rw [c5_length] at hl
  have g : ∀ j, j < 5 → (c5 D)[k * 5 + j]? = (blkV (dK D[k].1) (dE D[k].1) (dS D[k].1) (dL D[k].1) D[k].2)[j]? := fun j hj => by
    rw [c5_get D k j hj, List.getElem?_eq_getElem hk]; rfl
  obtain ⟨a, ha, h1⟩ := r.rd (k * 5 + 1) _ (by rw [g 1 (by omega)]; rfl)
  obtain ⟨a2, ha2, h2⟩ := r.rd (k * 5 + 2) _ (by rw [g 2 (by omega)]; rfl)
  obtain ⟨a3, ha3, h3⟩ := r.rd (k * 5 + 3) _ (by rw [g 3 (by omega)]; rfl)
  obtain ⟨a4, ha4, h4⟩ := r.rd (k * 5 + 4) _ (by rw [g 4 (by omega)]; rfl)
  rw [ha] at ha2 ha3 ha4
  cases ha2; cases ha3; cases ha4
  exact ⟨a, ha, by omega, by omega, hK a (by rw [add_add]; simpa using h1) (by rw [add_add]; simpa using h2) (by rw [add_add]; simpa using h3) (by rw [add_add]; simpa using h4)⟩

def putsD (D : List BlkD) : List PutD := D.map fun x => ((dL x.1 : Int), dB x.1)
structure CondM (bs : List UInt8) (P : List PutD) : Prop where
  nine : 9 ≤ bs.length
  one : 1 ≤ bN bs
  len : bs.length = 9 + 3 * bN bs
  first : leN (bs.take 8) ≤ 1099511627776
  off : offS bs (bN bs) = P.length
theorem bSt_leN {bs : List UInt8} {j : Nat} (h : 9 + 2 * j + 2 ≤ bs.length) : leN ((bs.drop (9 + 2 * j)).take 2) = bSt bs j := by
  rw [← range_getD bs _ 2 h]
  simp only [List.range_succ, List.range_zero, List.nil_append, List.map_append, List.map_cons, List.map_nil, List.cons_append, leN, bSt, Nat.add_zero]
  omega
theorem rMade_spec {h : Hp} {b0 : Nat} {data c4 : Sl} {D : List BlkD} {bs : List UInt8} (c c1 c2 c3 : Int) (rd : Rd 5 h data (c5 D)) (each : ∀ x ∈ D, Rd 1 h x.2 ((dB x.1).map bv) ∧ ∀ a, x.2.base = some a → b0 ≤ a.block ∧ a.block < h.size) (hb0 : b0 ≤ h.size) (rb : Rd 1 h c4 (bs.map bv)) (hD : D.length ≤ 1000000) (hbs : bs.length ≤ 1000) :
    HCalls Try.prog fn_scarpref11_made #[.slice data.base data.len data.cap, .agg #[.int .i64 c, .int .i64 c1, .int .i64 c2, .int .i64 c3, .slice c4.base c4.len c4.cap]] h fun r h' =>
      Ext h h' ∧ ∃ (num : Int) (t : Sl) (ok : Bool), r = .tuple #[.agg #[.int .i64 num, .slice t.base t.len t.cap], .bool ok] ∧ (ok = true ↔ CondM bs (putsD D)) ∧ (ok = true → num = c2 ∧ TxsR (fun b => b0 ≤ b ∧ b < h'.size) h' t (TOf bs (putsD D) (bN bs))) := by
  apply scarpref11_made_vc
  unfold vcscarpref11_made
  have hdl : D.length = data.len := by have := rd.len; rw [c5_length] at this; omega
  have hbl := rb.lenB
  intro h1 h2
  have e1 : Ext h h1 := alc_ext _ _ _
  have e2 : Ext h1 h2 := alc_ext _ _ _
  have s1 : h1.size = h.size + 1 := size_alc _ _ _
  have s2 : h2.size = h1.size + 1 := size_alc _ _ _
  have r1 : Row h1 h.size (blkV c c1 c2 c3 c4) := Row.alc _ _ _
  have q2 : Row h2 h1.size [.int .i64 (0 : Int), .slice Sl.nil.base Sl.nil.len Sl.nil.cap] := Row.alc _ _ _
  refine ⟨c2, (r1.ext e2).get rfl, ?_⟩
  intro h3
  refine loc2 rfl rfl fun h4 e4 r4 => ?_
  have s4 := e4.size
  have hr4 := r4.lt
  have e14 := e2.trans e4
  have e04 := e1.trans e14
  have bad : ∀ {h' : Hp} {x : Int} {y : Sl} {b : Bool}, Ext h4 h' → Row h' h2.size [.int .i64 x, .slice y.base y.len y.cap] → ¬ CondM bs (putsD D) → b = false →
      ∃ c14 : Int, ∃ c15 : Sl, hcell h' ((nw h2)) = some (.int .i64 c14) ∧ hcell h' ((nw h2).add 1) = some (.slice c15.base c15.len c15.cap) ∧
      stCells (nw h1) 0 [.int .i64 c14, .slice c15.base c15.len c15.cap] h' fun vh6 =>
      ∃ x2 : Int, ∃ x3 : Sl, hcell vh6 ((nw h1)) = some (.int .i64 x2) ∧ hcell vh6 ((nw h1).add 1) = some (.slice x3.base x3.len x3.cap) ∧
      (Ext h vh6 ∧ ∃ (num : Int) (t : Sl) (ok : Bool), Value.tuple #[.agg #[.int .i64 x2, .slice x3.base x3.len x3.cap], .bool b] = .tuple #[.agg #[.int .i64 num, .slice t.base t.len t.cap], .bool ok] ∧ (ok = true ↔ CondM bs (putsD D)) ∧ (ok = true → num = c2 ∧ TxsR (fun b => b0 ≤ b ∧ b < vh6.size) vh6 t (TOf bs (putsD D) (bN bs)))) := by
    intro h' x y b e' r' hn hb
    subst hb
    refine r'.get2s ?_
    refine ((q2.ext e4).ext e').put (vs := [.int .i64 x, .slice y.base y.len y.cap]) rfl (by intro v hv; simp at hv; rcases hv with rfl | rfl <;> rfl) fun h'' r'' s'' o'' => r''.get2s ⟨?_, x, y, false, rfl, ffIff hn, fun h => by cases h⟩
    have := (e04.trans e').size
    exact ⟨by omega, fun b hb => by rw [o'' b (by omega), (e04.trans e').block b hb]⟩
  have rc4 : Row h4 h.size (blkV c c1 c2 c3 c4) := r1.ext e14
  refine ⟨c4, rc4.get rfl, IfB.dec (fun hh => bad (.refl _) r4 (fun k => by have := k.nine; omega) rfl) (fun h9 => ⟨c4, rc4.get rfl, ?_⟩)⟩
  have rb4 := rb.ext e04
  refine (refGet_spec (n := 8) (by omega) rb4).mono ?_
  rintro _ h4' ⟨rfl, hh4⟩
  obtain rfl := hh4.symm
  rw [getR_of (by omega)]
  refine ⟨_, _, rfl, c4, rc4.get rfl, ?_⟩
  refine ixB rb4.rd (by omega) 8 rfl (by omega) ?_
  have h8 : (bs[8]'(by omega)).toNat = bN bs := by unfold bN; rw [List.getD_eq_getElem?_getD, List.getElem?_eq_getElem (by omega)]; rfl
  have hN : bN bs < 256 := by unfold bN; exact u8lt _
  rw [h8, iConv64 (by omega)]
  refine IfB.dec (fun hh => bad (.refl _) r4 (fun k => by have := k.one; omega) rfl) (fun hn1 => ⟨c4, rc4.get rfl, ?_⟩)
  rw [iMul64 (by omega), iAdd64 (by omega)]
  refine IfB.ne (fun hh => bad (.refl _) r4 (fun k => by have := k.len; omega) rfl) (fun hlen => IfB.dec (fun hh => bad (.refl _) r4 (fun k => by have := k.first; omega) rfl) (fun hf => ?_))
  rw [iConv64 (by omega)]
  have hF : leN (bs.take 8) = bFirst bs := by unfold bFirst; omega
  rw [hF]
  have hF2 : bFirst bs ≤ 1099511627776 := by omega
  refine ⟨fun time vat i m h' => ∃ (j : Nat) (q : Sl) (B : Nat → Prop) (L : List ((Int × Sl) × List PutD)), i = j ∧ m + j = bN bs ∧ vat = offS bs j ∧ time = tmS bs j ∧ offS bs j ≤ D.length ∧ Ext h2 h' ∧ h4.size ≤ h'.size ∧ Row h' h2.size [.int .i64 c2, .slice q.base q.len q.cap] ∧ OwnTxs (h2.size + 1) B h' q L ∧ (∀ b, B b → b0 ≤ b ∧ b < h'.size ∧ (b < h.size ∨ h2.size < b)) ∧ plT L = TOf bs (putsD D) j, bN bs,
    ⟨0, Sl.nil, fun _ => False, [], rfl, rfl, rfl, rfl, by simp [offS], e4, Nat.le_refl _, r4, OwnTxs.nil _ _ _, fun b hb => hb.elim, rfl⟩, ?_⟩
  rintro _ _ _ _ m h5 ⟨j, q, B, L, rfl, hm, rfl, rfl, hoff, e5, s45, r5, o5, hB, hT⟩
  have s5 := e5.size
  have e05 : Ext h h5 := (e1.trans e2).trans e5
  have rc5 : Row h5 h.size (blkV c c1 c2 c3 c4) := (r1.ext e2).ext e5
  have hLl : L.length = j := by have := congrArg List.length hT; simpa [plT, TOf_len] using this
  refine IfB.dec (fun hlt => ?_) (fun hge => ?_)
  · have hj : j < bN bs := by omega
    refine ⟨c4, rc5.get rfl, ?_⟩
    have ei : iAdd .i64 (9 : Int) (iMul .i64 (2 : Int) (j : Int)) = ((9 + 2 * j : Nat) : Int) := by rw [iMul64 (by omega), iAdd64 (by omega)]; push_cast; rfl
    have hcap := rb.cap
    rw [ei]
    refine ⟨by omega, by omega, by omega, by omega, ?_⟩
    have rb5 := rb.ext e05
    refine (refGet_spec (n := 2) (by omega) (rb5.cutD (lo := 9 + 2 * j) (by omega))).mono ?_
    rintro _ h5' ⟨rfl, hh5⟩
    obtain rfl := hh5.symm
    rw [getR_of (by rw [List.length_drop]; omega), bSt_leN (by omega)]
    refine ⟨_, _, rfl, ?_⟩
    have hst := bSt_lt bs j
    have htl := tmS_le bs j
    have hj255 : j * 65536 ≤ 256 * 65536 := Nat.mul_le_mul_right _ (by omega)
    rw [iConv64 (by omega)]
    have et : iAdd .i64 (tmS bs j : Int) (bSt bs j : Int) = (tmS bs (j + 1) : Int) := by rw [iAdd64 (by omega)]; simp only [tmS]; push_cast; rfl
    rw [et]
    intro h6
    refine loc2 rfl rfl fun h7 e7 r7 => ?_
    have s7 := e7.size
    have hr7 := r7.lt
    refine ⟨c4, (rc5.ext e7).get rfl, ?_⟩
    have ek : iAdd .i64 (iAdd .i64 (9 : Int) (iMul .i64 (2 : Int) (bN bs : Int))) (j : Int) = ((9 + 2 * bN bs + j : Nat) : Int) := by rw [iMul64 (by omega), show iAdd .i64 (9 : Int) (2 * (bN bs : Int)) = 9 + 2 * (bN bs : Int) from iAdd64 (by omega), iAdd64 (by omega)]; push_cast; rfl
    rw [ek]
    refine ixB (rb5.ext e7).rd (by omega) (9 + 2 * bN bs + j) rfl (by omega) ?_
    have hct : (bs[9 + 2 * bN bs + j]'(by omega)).toNat = bCt bs j := by unfold bCt; rw [List.getD_eq_getElem?_getD, List.getElem?_eq_getElem (by omega)]; rfl
    have hct2 : bCt bs j < 256 := by unfold bCt; exact u8lt _
    rw [hct, iConv64 (by omega), iSub64 (by omega)]
    have hos : offS bs (j + 1) = offS bs j + bCt bs j := rfl
    refine IfB.dec (fun hh => ?_) (fun hle => ?_)
    · have hmono := offS_mono bs (show j + 1 ≤ bN bs by omega)
      refine r7.lt |> fun _ => ?_
      have r57 := r5.ext e7
      -- the loop began at h4, but the block of the batch has been written to since: the end is reckoned from here
      refine r57.get2s ?_
      have q7 : Row h7 h1.size [.int .i64 (0 : Int), .slice Sl.nil.base Sl.nil.len Sl.nil.cap] := (q2.ext e5).ext e7
      refine q7.put (vs := [.int .i64 c2, .slice q.base q.len q.cap]) rfl (by intro v hv; simp at hv; rcases hv with rfl | rfl <;> rfl) fun h'' r'' s'' o'' => r''.get2s ⟨?_, _, _, false, rfl, ffIff fun k => by have := k.off; simp [putsD] at this; omega, fun h => by cases h⟩
      have := (e05.trans e7).size
      exact ⟨by omega, fun b hb => by rw [o'' b (by omega), (e05.trans e7).block b hb]⟩
    · refine ⟨fun vat1 j1 m h' => ∃ (k : Nat) (u : Sl), j1 = k ∧ m + k = bCt bs j ∧ vat1 = ((offS bs j + k : Nat) : Int) ∧ Ext h5 h' ∧ h7.size ≤ h'.size ∧ Row h' h5.size [.int .i64 (tmS bs (j + 1) : Int), .slice u.base u.len u.cap] ∧ Own (h5.size + 1) 2 h' u (Go.Proofs.Ytehhkjgcklhfcaa.c2 (((D.drop (offS bs j)).take k).map fun x => ((dL x.1 : Int), x.2))), bCt bs j,
        ⟨0, Sl.nil, rfl, rfl, rfl, e7, Nat.le_refl _, r7, Own.nil _ _ _⟩, ?_⟩
      rintro _ _ _ m8 h8 ⟨k, u, rfl, hmk, rfl, e8, s78, r8, o8⟩
      have e08 := e05.trans e8
      refine IfB.dec (fun hlt2 => ?_) (fun hge2 => ?_)
      · have hk : k < bCt bs j := by omega
        have hkD : offS bs j + k < D.length := by omega
        refine ⟨u, r8.get rfl, ?_⟩
        refine ix5 (rd.ext e08) (offS bs j + k) rfl hkD fun a _ _ g3 _ => ⟨_, g3, ix5 (rd.ext e08) (offS bs j + k) rfl hkD fun a _ _ _ g4 => ⟨_, g4, ?_⟩⟩
        intro h9
        have e9 : Ext h8 h9 := alc_ext _ _ _
        have s9 : h9.size = h8.size + 1 := size_alc _ _ _
        refine ⟨e9, ?_⟩
        have lu : u.len = k := by have := o8.len; rw [c2_length] at this; simp at this; omega
        refine AppC_own5 (news := [.int .i64 (dL D[offS bs j + k].1 : Int), slV D[offS bs j + k].2]) (l := Go.Proofs.Ytehhkjgcklhfcaa.c2 (((D.drop (offS bs j)).take k).map fun x => ((dL x.1 : Int), x.2))) rfl (o8.ext e9) (by omega) rfl (RdC.alc h8 _ _) (fun v hv => by simp at hv; rcases hv with rfl | rfl <;> rfl) (by simp only; omega) (by simp only; omega) fun r h10 o10 l10 k10 x10 b10 => ?_
        have s10 := k10.size
        have row10 : Row h10 h5.size [.int .i64 (tmS bs (j + 1) : Int), .slice u.base u.len u.cap] := (r8.ext e9).eq (k10.block _ (by omega))
        obtain ⟨ok, row11, x11, s11⟩ := row10.set (i := 1) (by simp) (.slice r.base r.len r.cap)
        have E11 : Ext h5 (hset h10 ((⟨h5.size, 0, none⟩ : Addr).add 1) (.slice r.base r.len r.cap)) := ⟨by omega, fun b hb => by rw [x11 b (by omega), k10.block b (by omega), e9.block b (by have := e8.size; omega), e8.block b hb]⟩
        have S11 : h7.size ≤ (hset h10 ((⟨h5.size, 0, none⟩ : Addr).add 1) (.slice r.base r.len r.cap)).size := by omega
        refine ⟨ok, m8 - 1, by omega, k + 1, r, by rw [iAdd64 (by omega)]; push_cast; rfl, by omega, by rw [iAdd64 (by omega)]; push_cast; omega, E11, S11, row11, ?_⟩
        have o11 := o10.eq (h' := hset h10 ((⟨h5.size, 0, none⟩ : Addr).add 1) (.slice r.base r.len r.cap)) fun a ha => x11 _ (by have := (o10.lt ha).1; omega)
        have htk : (D.drop (offS bs j)).take (k + 1) = (D.drop (offS bs j)).take k ++ [D[offS bs j + k]] := by
          rw [List.take_succ_eq_append_getElem (by rw [List.length_drop]; omega), List.getElem_drop]
        rw [htk, List.map_append, c2_append]
        exact o11
      · have hk : k = bCt bs j := by omega
        subst hk
        have r58 := r5.ext e8
        refine ⟨q, r58.get rfl, _, u, r8.get0 rfl, r8.get rfl, ?_⟩
        intro h9
        have s8 := e8.size
        have pr : PutsR (fun b => B b ∨ (b0 ≤ b ∧ b < h.size) ∨ (h5.size + 1 ≤ b ∧ b < h8.size)) h8 u (((putsD D).drop (offS bs j)).take (bCt bs j)) := by
          refine ⟨((D.drop (offS bs j)).take (bCt bs j)).map fun x => (((dL x.1 : Int), x.2), dB x.1), ?_, ?_, fun a ha _ => .inr (.inr (o8.lt ha)), fun x hx => ?_⟩
          · simp only [putsD, List.map_drop, List.map_take, List.map_map]; rfl
          · have := o8.toRd
            rw [List.map_map]; exact this
          · obtain ⟨y, hy, rfl⟩ := List.mem_map.1 hx
            have hyD := List.mem_of_mem_drop (List.mem_of_mem_take hy)
            exact ⟨(each y hyD).1.ext e08, fun a ha _ => .inr (.inl ((each y hyD).2 a ha))⟩
        have hap : ∀ a, q.base = some a → h2.size + 1 ≤ a.block ∧ a.block < h5.size := fun a ha => o5.own.lt ha
        refine OwnTxs.push (B := fun b => B b ∨ (b0 ≤ b ∧ b < h.size) ∨ (h5.size + 1 ≤ b ∧ b < h8.size)) (P := ((putsD D).drop (offS bs j)).take (bCt bs j)) rfl ((o5.ext e8).mono (fun b hb => .inl hb) fun a ha hb => ?_) (fun b hb => ?_) (by omega) pr (by omega) fun r h10 o10 l10 k10 x10 _ => ?_
        · rcases hb with hb | hb | hb
          · exact o5.apart a ha hb
          · have := hap a ha; omega
          · have := hap a ha; omega
        · rcases hb with hb | hb | hb
          · have := hB b hb; omega
          · have := e08.size; omega
          · omega
        · have s10 := k10.size
          have row10 : Row h10 h2.size [.int .i64 c2, .slice q.base q.len q.cap] := r58.eq (k10.block _ (by omega))
          obtain ⟨ok, row11, x11, s11⟩ := row10.set (i := 1) (by simp) (.slice r.base r.len r.cap)
          have O11 : Ext h2 (hset h10 ((⟨h2.size, 0, none⟩ : Addr).add 1) (.slice r.base r.len r.cap)) := ⟨by omega, fun b hb => by rw [x11 b (by omega), k10.block b (by omega), e8.block b (by omega), e5.block b hb]⟩
          have S11 : h4.size ≤ (hset h10 ((⟨h2.size, 0, none⟩ : Addr).add 1) (.slice r.base r.len r.cap)).size := by omega
          have B11 : ∀ b, (B b ∨ (b0 ≤ b ∧ b < h.size) ∨ (h5.size + 1 ≤ b ∧ b < h8.size)) → b0 ≤ b ∧ b < (hset h10 ((⟨h2.size, 0, none⟩ : Addr).add 1) (.slice r.base r.len r.cap)).size ∧ (b < h.size ∨ h2.size < b) := fun b hb => by
            rcases hb with hb | hb | hb
            · have := hB b hb; omega
            · have := e08.size; omega
            · omega
          refine ⟨ok, m - 1, by omega, j + 1, r, _, _, by rw [iAdd64 (by omega)]; push_cast; rfl, by omega, by rw [hos], rfl, by omega, O11, S11, row11, ⟨o10.own.eq fun a ha => x11 _ (by have := (o10.own.lt ha).1; omega), fun x hx => (o10.each x hx).eq fun b hb => x11 b ?_, o10.apart⟩, B11, ?_⟩
          · have := B11 b hb; omega
          · rw [TOf_succ, ← hT]; simp [plT]
  · obtain rfl : j = bN bs := by omega
    refine r5.get2s ?_
    have q5 : Row h5 h1.size [.int .i64 (0 : Int), .slice Sl.nil.base Sl.nil.len Sl.nil.cap] := q2.ext e5
    refine q5.put (vs := [.int .i64 c2, .slice q.base q.len q.cap]) rfl (by intro v hv; simp at hv; rcases hv with rfl | rfl <;> rfl) fun h6 r6 s6 o6 => r6.get2s ⟨?_, _, _, _, rfl, ?_, fun hok => ⟨rfl, ?_⟩⟩
    · exact ⟨by have := e05.size; omega, fun b hb => by rw [o6 b (by omega), e05.block b hb]⟩
    · rw [beq_iff_eq]
      have hpl : (putsD D).length = D.length := by simp [putsD]
      exact ⟨fun h => ⟨by omega, by omega, by omega, by omega, by omega⟩, fun k => by have := k.off; omega⟩
    · rw [← hT]
      have o6' : OwnTxs (h2.size + 1) B h6 q L := ⟨o5.own.eq fun a ha => o6 _ (by have := (o5.own.lt ha).1; omega), fun x hx => (o5.each x hx).eq fun b hb => o6 b (by have := (hB b hb).2.2; omega), o5.apart⟩
      exact o6'.txs (fun b hb => by have := hB b hb; omega) fun b h1 h2' => by omega

end Go.Proofs.Ytehhkjgcklhfcaa
