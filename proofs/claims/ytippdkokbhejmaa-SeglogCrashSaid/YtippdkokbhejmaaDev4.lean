/-
  zdev: Crash and Copy.
-/
import Derived.Test.YtippdkokbhejmaaDev3
namespace Go.Proofs.Ytippdkokbhejmaa
set_option linter.unusedVariables false
set_option linter.unusedSimpArgs false

/-- roles for a zone's new row of blocks. -/
theorem roleNew {lo : Nat} {F : Nat → Nat} {h h1 : Hp} {bs : Sl} {rows : List (Sl × List UInt8)} (hd : ∀ c, F c ≠ 0 → lo ≤ c ∧ c < h.size) (hlo : lo ≤ h.size) (e1 : Ext h h1) (o : OwnRows h.size h1 bs rows) (k : Nat) :
    ∃ F' : Nat → Nat, (∀ c, c < h.size → F' c = F c) ∧ (∀ c, F' c ≠ 0 → lo ≤ c ∧ c < h1.size) ∧ (∀ a, bs.base = some a → F' a.block = 5 + 2 * k) ∧ (∀ p ∈ rows, ∀ a, p.1.base = some a → F' a.block = 3) ∧ (∀ c, F c ≠ 0 → F' c = F c) := by
  have hs := e1.size
  refine ⟨fun c => if c < h.size then F c else if c < h1.size then (if bs.base.map (·.block) = some c then 5 + 2 * k else 3) else 0, fun c hc => if_pos hc, fun c hc => ?_, fun a ha => ?_, fun p hp a ha => ?_, fun c hc => if_pos (hd c hc).2⟩
  · have hc : (if c < h.size then F c else if c < h1.size then (if bs.base.map (·.block) = some c then 5 + 2 * k else 3) else 0) ≠ 0 := hc
    by_cases h1 : c < h.size
    · rw [if_pos h1] at hc; have := hd c hc; exact ⟨this.1, by omega⟩
    · rw [if_neg h1] at hc
      split at hc
      · exact ⟨by omega, by assumption⟩
      · exact absurd rfl hc
  · have := o.own.lt ha
    show (if a.block < h.size then _ else _) = _
    rw [if_neg (by omega), if_pos this.2, ha]; simp
  · obtain ⟨h1, h2, h3⟩ := o.base p hp a ha
    show (if a.block < h.size then _ else _) = _
    rw [if_neg (by omega), if_pos h2, if_neg]
    intro e
    obtain ⟨a', ha', hab⟩ := Option.map_eq_some_iff.1 e
    exact h3 a' ha' hab.symm
/-- a zone gets a new row of blocks. -/
theorem DevIn.zsetNew {lo : Nat} {F : Nat → Nat} {h : Hp} {db : Nat} {d : Dv} {zs : Sl} {zb : List Nat} (x : DevIn lo F h db d zs zb) (hlo : lo ≤ h.size) {k : Nat} (hk : k < zb.length) {h1 : Hp} (e1 : Ext h h1) {bs : Sl} {rows : List (Sl × List UInt8)} (o : OwnRows h.size h1 bs rows) {g : Nat} {K : Hp → Prop}
    (hK : ∀ h2 F', DevIn lo F' h2 db (d.setZ k ⟨rows.map (·.2), g⟩) zs zb → (∀ c, c < h.size → F' c = F c) → Chg F h h2 → K h2) : stCells ⟨zb[k], 0, none⟩ 0 [.slice bs.base bs.len bs.cap, .int .i64 (g : Int)] h1 K := by
  obtain ⟨F', f1, f2, f3, f4, f5⟩ := roleNew x.dom hlo e1 o k
  have x1 : DevIn lo F' h1 db d zs zb := x.move f5 f2 fun c hc => e1.block c (x.dom c hc).2
  obtain ⟨bs0, rows0, y⟩ := x1.zone k hk
  obtain ⟨_, _, y0⟩ := x.zone k hk
  refine y.row.put (vs := znV bs g) rfl (by simp [znV, cellOk]) fun h2 r2 s2 o2 => ?_
  refine hK h2 F' (x1.zset hk (z := ⟨rows.map (·.2), g⟩) r2 s2 o2 (o.own.weak (Nat.zero_le _)) f3 rfl o.each f4) f1 ⟨by rw [s2]; exact e1.size, fun c hc hF => ?_⟩
  rw [o2 c fun e => by rw [e, y0.role] at hF; omega, e1.block c hc]

/-! ### Crash -/
def Zn.keep (z : Zn) (px : Option Int) : Nat :=
  match px with
  | none => z.good
  | some x => z.good + (x % ((z.rows.length - z.good + 1 : Nat) : Int)).toNat
open Classical in
noncomputable def Zn.tornT (z : Zn) (n : Nat) (tx : Option Int) : List (List UInt8) :=
  match tx with
  | none => []
  | some x => if n < z.rows.length ∧ x.tmod 2 ≠ 0 then [tornL (z.rows.getD n [])] else []
noncomputable def Zn.crash (z : Zn) (px tx : Option Int) : Zn :=
  ⟨z.rows.take (z.keep px) ++ z.tornT (z.keep px) tx, (z.rows.take (z.keep px) ++ z.tornT (z.keep px) tx).length⟩
theorem Zn.keep_le {size : Nat} {z : Zn} (w : z.Wf size) (px : Option Int) : z.good ≤ z.keep px ∧ z.keep px ≤ z.rows.length := by
  have := w.good
  cases px with
  | none => exact ⟨Nat.le_refl _, this⟩
  | some x =>
    simp only [Zn.keep]
    have h1 := Int.emod_nonneg x (show ((z.rows.length - z.good + 1 : Nat) : Int) ≠ 0 by omega)
    have h2 := Int.emod_lt_of_pos x (show (0 : Int) < ((z.rows.length - z.good + 1 : Nat) : Int) by omega)
    omega
theorem tornL_length {q : List UInt8} (h : q.length = 64) : (tornL q).length = 64 := by simp [tornL, h]
theorem Zn.crash_wf {size : Nat} {z : Zn} (w : z.Wf size) (px tx : Option Int) : (z.crash px tx).Wf size := by
  obtain ⟨h1, h2⟩ := z.keep_le w px
  have hr := w.rows
  have ht : (z.tornT (z.keep px) tx).length ≤ z.rows.length - z.keep px ∧ ∀ p ∈ z.tornT (z.keep px) tx, p.length = 64 := by
    unfold Zn.tornT
    cases tx with
    | none => exact ⟨Nat.zero_le _, fun p hp => by simp at hp⟩
    | some x =>
      simp only
      split
      · rename_i hh
        refine ⟨by simp; omega, fun p hp => ?_⟩
        simp only [List.mem_cons, List.not_mem_nil, or_false] at hp
        subst hp
        apply tornL_length
        rw [List.getD_eq_getElem?_getD, List.getElem?_eq_getElem hh.1]
        exact w.each _ (List.getElem_mem _)
      · exact ⟨Nat.zero_le _, fun p hp => by simp at hp⟩
  refine ⟨?_, Nat.le_refl _, fun p hp => ?_⟩
  · simp only [Zn.crash, List.length_append, List.length_take]; omega
  · rcases List.mem_append.1 hp with hp | hp
    · exact w.each p (List.mem_of_mem_take hp)
    · exact ht.2 p hp
def mkZ (n : Nat) (f : Nat → Zn) : List Zn := (List.range n).map f
theorem mkZ_length (n : Nat) (f : Nat → Zn) : (mkZ n f).length = n := by simp [mkZ]
theorem mkZ_get {n : Nat} {f : Nat → Zn} {k : Nat} (hk : k < n) : (mkZ n f)[k]? = some (f k) := by simp [mkZ, hk]
theorem mkZ_set {n : Nat} {f : Nat → Zn} {j : Nat} (v : Zn) : (mkZ n f).set j v = mkZ n fun k => if k = j then v else f k := by
  apply List.ext_getElem?
  intro k
  rw [List.getElem?_set, mkZ_length]
  by_cases hk : k < n
  · rw [mkZ_get hk, mkZ_get hk]
    by_cases e : j = k
    · subst e; simp [hk]
    · rw [if_neg e, if_neg (Ne.symm e)]
  · rw [List.getElem?_eq_none (by rw [mkZ_length]; omega), List.getElem?_eq_none (by rw [mkZ_length]; omega)]
    split
    · rw [if_neg (by omega)]
    · rfl
noncomputable def Dv.crash (d : Dv) (picks torn : List Int) : Dv := { Dv.new d.n d.size with zs := mkZ d.n fun k => (d.z k).crash (pickL picks k) (pickL torn k) }
theorem Dv.crash_z (d : Dv) (picks torn : List Int) {k : Nat} (hk : k < d.n) : (d.crash picks torn).z k = (d.z k).crash (pickL picks k) (pickL torn k) := by
  unfold Dv.z Dv.crash
  simp only [List.getD_eq_getElem?_getD, mkZ_get hk]; rfl
theorem Dv.Wf.crash {d : Dv} (w : d.Wf) (picks torn : List Int) : (d.crash picks torn).Wf :=
  ⟨(mkZ_length _ _).symm, w.zones, w.size, by show 0 < _; omega, fun z hz => by
    obtain ⟨k, hk, rfl⟩ := List.mem_map.1 hz
    exact Zn.crash_wf (w.zone k) _ _⟩
/-- so far. -/
noncomputable def Dv.crashN (d : Dv) (picks torn : List Int) (j : Nat) : Dv := { Dv.new d.n d.size with zs := mkZ d.n fun k => if k < j then (d.z k).crash (pickL picks k) (pickL torn k) else ⟨[], 0⟩ }
theorem Dv.crashN_succ (d : Dv) (picks torn : List Int) (j : Nat) : d.crashN picks torn (j + 1) = (d.crashN picks torn j).setZ j ((d.z j).crash (pickL picks j) (pickL torn j)) := by
  unfold Dv.crashN Dv.setZ
  simp only [mkZ_set]
  congr 2
  funext k
  by_cases e : k = j
  · subst e; simp
  · rw [if_neg e]
    by_cases hk : k < j
    · rw [if_pos hk, if_pos (by omega)]
    · rw [if_neg hk, if_neg (by omega)]
theorem Crash_spec {lo : Nat} {F : Nat → Nat} {h : Hp} {db : Nat} {d : Dv} (x : DevAt lo F h db d) {s t : Sl} {picks torn : List Int} (hs : picks.length = s.len) (rs : RdC h s.base (picks.map (Value.int .i64))) (ht : torn.length = t.len) (rt : RdC h t.base (torn.map (Value.int .i64))) :
    HCalls Try.prog fn_zdev_Dev_Crash #[dp db, .slice s.base s.len s.cap, .slice t.base t.len t.cap] h fun r h' => Ext h h' ∧ ∃ F' b, r = dp b ∧ DevAt h.size F' h' b (d.crash picks torn) := by
  obtain ⟨w, zs, zb, x⟩ := x
  apply zdev_Dev_Crash_vc
  unfold vczdev_Dev_Crash
  refine (goneA_spec w x).mono ?_
  rintro _ h ⟨rfl, rfl⟩
  refine ⟨_, rfl, .ff ⟨_, rfl, _, _, x.row.get0 rfl, x.row.get rfl, ?_⟩⟩
  refine (New_spec _ _ h).mono ?_
  rintro _ h1 ⟨e1, ⟨hno, _⟩ | ⟨_, Fo, ob, rfl, wo, zo, zbo, xo⟩⟩
  · exfalso
    refine hno ⟨?_, ?_⟩
    · have := w.zones; omega
    · have := w.size; omega
  rw [Int.toNat_natCast, Int.toNat_natCast] at xo
  have hzn := w.n
  have hzl : zs.len = d.n := by have := x.own.len; have := x.len; simp at *; omega
  have hz64 := w.zones
  have hxl := x.len
  refine ⟨_, _, rfl, _, rfl, zs, (x.ext e1).row.get rfl, ?_⟩
  refine ⟨fun i m h' => ∃ (j : Nat) (F' : Nat → Nat) (zs' : Sl) (zb' : List Nat), i = j ∧ m + j = d.n ∧ DevIn h.size F' h' ob (d.crashN picks torn j) zs' zb' ∧ Ext h h', d.n, ⟨0, Fo, zo, zbo, rfl, rfl, ?_, e1⟩, ?_⟩
  · have : d.crashN picks torn 0 = Dv.new d.n d.size := by
      unfold Dv.crashN Dv.new mkZ
      simp only [Nat.not_lt_zero, if_false]
      congr 1
      apply List.ext_getElem <;> simp
    rw [this]; exact xo
  rintro _ _ m h2 ⟨j, F2, zs2, zb2, rfl, hm, x2, e2⟩
  have hs2 := e2.size
  refine IfB.dec (fun hlt => ?_) (fun hge => ?_)
  · have hj : j < d.n := by omega
    have hk : j < zb.length := by rw [x.len]; omega
    have hk2 : j < zb2.length := by rw [x2.len]; simp [Dv.crashN, mkZ_length]; exact hj
    have xd := x.ext e2
    have wz := w.zone j
    have hsz := w.size
    have hwr := wz.rows
    have hwg := wz.good
    refine ix1 xd.own.rd (by simp; omega) j rfl (by simpa using hk) fun a _ hc => ⟨some ⟨zb[j], 0, none⟩, by simpa [pv] using hc, ?_⟩
    obtain ⟨bs, rows, y⟩ := xd.zone j hk
    have hyl := y.slen
    refine ⟨_, rfl, _, y.row.get rfl, _, rfl, bs, y.row.get0 rfl, ?_⟩
    have hkeep := (d.z j).keep_le wz (pickL picks j)
    refine ⟨fun n h' => h' = h2 ∧ n = (((d.z j).keep (pickL picks j) : Nat) : Int), ?_, ?_⟩
    · refine (pick_spec hs (rs.ext e2) j).mono ?_
      rintro _ h3 ⟨rfl, ⟨hn, rfl⟩ | ⟨v, hv, rfl⟩⟩
      · exact ⟨_, _, rfl, .ff ⟨rfl, by rw [hn]; rfl⟩⟩
      · refine ⟨_, _, rfl, .tt ?_⟩
        have e : iAdd .i64 (iSub .i64 (bs.len : Int) ((d.z j).good : Int)) 1 = (((d.z j).rows.length - (d.z j).good + 1 : Nat) : Int) := by
          rw [iSub64 (by omega), iAdd64 (by omega)]; omega
        rw [e]
        refine (rest_spec v _ (by omega) (by omega) h3).mono ?_
        rintro _ h4 ⟨rfl, rfl⟩
        have h1 := Int.emod_nonneg v (show (((d.z j).rows.length - (d.z j).good + 1 : Nat) : Int) ≠ 0 by omega)
        have h2 := Int.emod_lt_of_pos v (show (0 : Int) < (((d.z j).rows.length - (d.z j).good + 1 : Nat) : Int) by omega)
        refine ⟨_, rfl, rfl, ?_⟩
        rw [iAdd64 (by omega), hv]
        simp only [Zn.keep]; omega
    rintro _ _ h3 ⟨rfl, rfl⟩
    generalize hkp : (d.z j).keep (pickL picks j) = n at *
    have hcap := y.own.le
    refine ⟨_, rfl, bs, y.row.get0 rfl, by omega, by omega, by omega, by omega, ?_⟩
    have hcut := y.own.toRd.cut (lo := 0) (hi := n) (m := bs.cap) (by omega) (by omega) (by omega)
    have hcl : (cutSl bs ((0 : Nat) : Int) (n : Int) (bs.cap : Int) 1).len = (rows.take n).length := by rw [cut_len]; simp; omega
    have hcr : RdC h3 (cutSl bs ((0 : Nat) : Int) (n : Int) (bs.cap : Int) 1).base ((rows.take n).map fun p => slV p.1) := by
      have := hcut.rd
      simpa [List.map_take] using this
    refine (own_spec hcr hcl (fun p hp => y.each p (List.mem_of_mem_take hp)) (fun p hp => ?_) (by simp; omega)).mono ?_
    · have := wz.each p.2 (by rw [y.eq]; exact List.mem_map_of_mem (List.mem_of_mem_take hp))
      omega
    rintro _ h4 ⟨t4, rows4, rfl, o4, q4, e4⟩
    refine ⟨t4, rfl, ?_⟩
    have e24 := e2.trans e4
    have hrows4 : rows4.map (·.2) = (d.z j).rows.take n := by rw [q4, List.map_take, y.eq]
    have hl4 : rows4.length = n := by have := congrArg List.length hrows4; simp at this; omega
    refine ⟨fun l h' => Ext h3 h' ∧ ∃ rows', OwnRows h3.size h' l rows' ∧ rows'.map (·.2) = ((d.z j).crash (pickL picks j) (pickL torn j)).rows, ?_, ?_⟩
    · have plain : (d.z j).tornT n (pickL torn j) = [] → Ext h3 h4 ∧ ∃ rows', OwnRows h3.size h4 t4 rows' ∧ rows'.map (·.2) = ((d.z j).crash (pickL picks j) (pickL torn j)).rows := fun hnil => by
        refine ⟨e4, rows4, o4, ?_⟩
        simp only [Zn.crash, hkp, hnil, List.append_nil]; exact hrows4
      refine (pick_spec ht (rt.ext e24) j).mono ?_
      rintro _ h5 ⟨rfl, ⟨hn, rfl⟩ | ⟨v, hv, rfl⟩⟩
      · exact ⟨_, _, rfl, .ff (plain (by rw [hn]; rfl))⟩
      · refine ⟨_, _, rfl, .tt (IfB.dec (fun hlt => ⟨by omega, IfB.ne (fun hodd => ?_) (fun heven => plain ?_)⟩) (fun hge => plain ?_))⟩
        · have xd5 := xd.ext e4
          obtain ⟨bs', rows', y'⟩ := xd5.zone j hk
          have hyl' := y'.slen
          refine ⟨_, rfl, bs', y'.row.get0 rfl, ?_⟩
          have hn' : n < rows'.length := by omega
          refine ixS y'.own.rd hyl'.2 n rfl hn' ?_
          have hmem : rows'[n] ∈ rows' := List.getElem_mem hn'
          have hl64 : (rows'[n]).2.length = 64 := wz.each _ (by rw [y'.eq]; exact List.mem_map_of_mem hmem)
          refine (tear_spec (y'.each _ hmem) hl64).mono ?_
          rintro _ h6 ⟨u, rfl, ou, lu, e6⟩
          refine ⟨u, rfl, ?_⟩
          intro h7
          refine OwnRows.push rfl o4 e4.size e6 ou (by omega) (fun r h8 o8 l8 k8 x8 b8 => ?_) (by omega)
          refine ⟨(e4.toKeep.trans k8).ext, _, o8, ?_⟩
          have hcond : n < (d.z j).rows.length ∧ v.tmod 2 ≠ 0 := ⟨by omega, hodd⟩
          simp only [Zn.crash, hkp, Zn.tornT, hv, if_pos hcond, List.map_append, hrows4]
          congr 1
          rw [List.getD_eq_getElem?_getD, y'.eq]
          simp [hn']
        · rw [hv]; simp only [Zn.tornT]; rw [if_neg (fun hc => hc.2 heven)]
        · rw [hv]; simp only [Zn.tornT]; rw [if_neg (fun hc => by omega)]
    · rintro _ l h5 ⟨e5, rows5, o5, q5⟩
      have x5 := x2.ext e5
      have hk2' := hk2
      have hl2 : zs2.len = d.n := by have := x2.own.len; have h9 := x2.len; simp [Dv.crashN, mkZ_length] at *; omega
      refine ⟨_, rfl, zs2, x5.row.get rfl, ?_⟩
      refine ix1 x5.own.rd (by simp [x2.len, Dv.crashN, mkZ_length, hl2]) j rfl (by simpa using hk2) fun a _ hc => ⟨some ⟨zb2[j], 0, none⟩, by simpa [pv] using hc, _, rfl, ?_⟩
      have hl5 : l.len = rows5.length := o5.len
      refine x2.zsetNew hs2 hk2 e5 o5 fun h6 F6 x6 f6 c6 => ?_
      refine ⟨m - 1, by omega, j + 1, F6, zs2, zb2, by rw [iAdd64 (by omega)]; push_cast; rfl, by omega, ?_, c6.ext e2 fun b hb => ?_⟩
      · rw [Dv.crashN_succ]
        have : (⟨rows5.map (·.2), l.len⟩ : Zn) = (d.z j).crash (pickL picks j) (pickL torn j) := by
          have hlen : l.len = ((d.z j).crash (pickL picks j) (pickL torn j)).rows.length := by rw [← q5]; simp; exact hl5
          rw [q5, hlen]; rfl
        rw [← this]; exact x6
      · rcases Nat.eq_zero_or_pos (F2 b) with h | h
        · exact h
        · have := (x2.dom b (by omega)).1; omega
  · have hj : j = d.n := by omega
    subst hj
    refine ⟨e2, F2, ob, rfl, w.crash picks torn, zs2, zb2, ?_⟩
    have : d.crashN picks torn d.n = d.crash picks torn := by
      have hz : (mkZ d.n fun k => if k < d.n then (d.z k).crash (pickL picks k) (pickL torn k) else ⟨[], 0⟩) = mkZ d.n fun k => (d.z k).crash (pickL picks k) (pickL torn k) :=
        List.map_congr_left fun k hk => by rw [if_pos (by simpa using hk)]
      unfold Dv.crashN Dv.crash
      rw [hz]
    rw [← this]; exact x2

end Go.Proofs.Ytippdkokbhejmaa
