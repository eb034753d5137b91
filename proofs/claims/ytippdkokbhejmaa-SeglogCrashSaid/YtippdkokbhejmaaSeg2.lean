/-
  seglog.read.
-/
import Derived.Test.YtippdkokbhejmaaSeg1
namespace Go.Proofs.Ytippdkokbhejmaa
set_option linter.unusedVariables false
set_option linter.unusedSimpArgs false

def notB (o : Option Addr) (b : Nat) : Bool :=
  match o with
  | none => true
  | some a => a.block != b
theorem notB_of {o : Option Addr} {b : Nat} (h : ∀ a, o = some a → a.block ≠ b) : notB o b = true := by
  cases o with
  | none => rfl
  | some a => simpa [notB] using h a rfl
theorem notB_ne {o : Option Addr} {b : Nat} (h : notB o b = true) : ∀ a, o = some a → b ≠ a.block := by
  intro a ha e
  subst ha
  simp [notB] at h
  exact h e.symm
theorem step_first {i : Nat} {s : Sc} {p : List UInt8} (h : s.first ≤ 1099511627776) : (stepB i s p).first ≤ 1099511627776 := by
  by_cases g : goodB p
  · have hs := (goodB_lt g).2.2.1
    unfold stepB
    rw [if_neg (fun hh => hh g)]
    split
    · exact hs
    split
    · exact h
    split
    · exact h
    split
    · unfold commitS; repeat' split
      all_goals exact h
    split
    · unfold markS; split
      · exact hs
      · exact h
    · exact h
  · rw [stepB_bad g]; exact h
theorem step_epoch {i : Nat} {s : Sc} {p : List UInt8} (h : s.epoch ≤ 4294967295) : (stepB i s p).epoch ≤ 4294967295 := by
  by_cases g : goodB p
  · have hs := (goodB_lt g).2.1
    unfold stepB
    rw [if_neg (fun hh => hh g)]
    split
    · exact hs
    split
    · exact h
    split
    · exact h
    split
    · unfold commitS; repeat' split
      all_goals exact h
    split
    · unfold markS; split
      · exact h
      · exact h
    · exact h
  · rw [stepB_bad g]; exact h
theorem segRead_spec {h : Hp} {s : Sl} {rows : List (Sl × List UInt8)} (r : RowsR h s rows) (hmax : rows.length ≤ 50000) :
    HCalls Try.prog fn_seglog_read #[.slice s.base s.len s.cap] h fun r h' => r = .pointer (some ⟨h.size, 0, none⟩) ∧ Ext h h' ∧ ∃ rs ws rr D, ScAt h.size h' h.size (scanL (rows.map (·.2))) rs ws rr D := by
  apply seglog_read_vc
  unfold vcseglog_read
  have hl := r.len
  intro h0
  have e0 : Ext h h0 := alc_ext _ _ _
  have sz0 : h0.size = h.size + 1 := size_alc _ _ _
  have row0 : Row h0 h.size (scV sc0 Sl.nil Sl.nil) := Row.alc h _ _
  have x0 : ScAt h.size h0 h.size sc0 Sl.nil Sl.nil [] [] := ⟨row0, Nat.le_refl _, ⟨(Own.nil _ _ _).toF, fun p hp => by simp at hp, fun p hp => by simp at hp, Own.nil _ _ _, fun p hp => by simp at hp, fun p hp => by simp at hp, fun a ha => (by cases ha), fun a ha => (by cases ha), fun a a' ha => (by cases ha)⟩, rfl, rfl, fun p hp => by simp at hp⟩
  generalize hV : scanL (rows.map (·.2)) = V
  refine ⟨fun i m h' => ∃ (k : Nat) (sc : Sc) (rs ws : Sl) (rr : List (Sl × List UInt8)) (D : List WB), i = k ∧ m + k = rows.length ∧ Ext h h' ∧ ScAt h.size h' h.size sc rs ws rr D ∧ sc.first ≤ 1099511627776 ∧ sc.recs.length + sc.wait.length + flg sc.recs ≤ k ∧ scanGo ((rows.map (·.2)).drop k) k sc = V, rows.length,
    ⟨0, sc0, Sl.nil, Sl.nil, [], [], rfl, rfl, e0, x0, by show (0 : Nat) ≤ _; omega, Nat.le_refl _, hV⟩, ?_⟩
  rintro _ _ m h1 ⟨k, sc, rs, ws, rr, D, rfl, hm, e1, x1, hf, hcount, hgo⟩
  have s1 := e1.size
  refine IfB.dec (fun hlt => ?_) (fun hge => ?_)
  · have hk : k < rows.length := by omega
    have hmem : rows[k] ∈ rows := List.getElem_mem hk
    have hkm : k < (rows.map (·.2)).length := by simpa using hk
    refine ixS (r.rd.ext e1).rd hl k rfl hk ?_
    refine (Decode_spec ((r.each _ hmem).ext e1)).mono ?_
    rw [List.drop_eq_getElem_cons hkm, List.getElem_map, scanGo] at hgo
    generalize hp : rows[k].2 = p at *
    have hstep := step_count k sc p
    have hf' := step_first (i := k) (p := p) hf
    rintro v2 h2 d2
    obtain ⟨e2, kk, e, sq, lba, t, c, rfl, dn, db, dg⟩ := d2.shape
    refine ⟨_, _, _, _, t, c, rfl, ?_⟩
    intro h3
    refine put5 fun h4 e4 r4 => ?_
    have e24 := e2.trans e4
    have e04 := e1.trans e24
    have s24 := e24.size
    have s2 := e2.size
    have x4 := x1.ext e24
    have hsb := x1.row.lt
    -- to go on with it
    have next : ∀ {h9 : Hp}, Keep h.size h4 h9 → (∃ rs ws rr D, ScAt h.size h9 h.size (stepB k sc p) rs ws rr D) → ∃ n2, n2 < m ∧ ∃ (k' : Nat) (sc' : Sc) (rs ws : Sl) (rr : List (Sl × List UInt8)) (D : List WB), iAdd .i64 (k : Int) (1 : Int) = k' ∧ n2 + k' = rows.length ∧ Ext h h9 ∧ ScAt h.size h9 h.size sc' rs ws rr D ∧ sc'.first ≤ 1099511627776 ∧ sc'.recs.length + sc'.wait.length + flg sc'.recs ≤ k' ∧ scanGo ((rows.map (·.2)).drop k') k' sc' = V := by
      rintro h9 k9 ⟨rs', ws', rr', D', x'⟩
      exact ⟨m - 1, by omega, k + 1, stepB k sc p, rs', ws', rr', D', by rw [iAdd64 (by omega)]; push_cast; rfl, by omega, (e04.toKeep.trans k9).ext, x', hf', by omega, hgo⟩
    have drop : stepB k sc p = { sc with wait := [] } → ∃ a : Addr, (some ⟨h.size, 0, none⟩ : Option Addr) = some a ∧ StOk h4 (a.add 5) ∧ Lt (hset h4 (a.add 5) (.slice Sl.nil.base Sl.nil.len Sl.nil.cap)) fun h9 => ∃ n2, n2 < m ∧ ∃ (k' : Nat) (sc' : Sc) (rs ws : Sl) (rr : List (Sl × List UInt8)) (D : List WB), iAdd .i64 (k : Int) (1 : Int) = k' ∧ n2 + k' = rows.length ∧ Ext h h9 ∧ ScAt h.size h9 h.size sc' rs ws rr D ∧ sc'.first ≤ 1099511627776 ∧ sc'.recs.length + sc'.wait.length + flg sc'.recs ≤ k' ∧ scanGo ((rows.map (·.2)).drop k') k' sc' = V := by
      intro hs
      refine x4.setWait fun h5 x5 s5 o5 => next ⟨by omega, fun b hb => o5 b (by omega)⟩ ⟨_, _, _, _, by rw [hs]; exact x5⟩
    refine IfB.ne (fun hne => drop (stepB_bad fun g => hne (dg g.1 g.2).1)) (fun h0' => ?_)
    have hg : goodB p := by
      by_cases h64 : p.length = 64
      · by_cases hg : goodP p
        · exact ⟨h64, hg⟩
        · have := db h64 hg; omega
      · have := dn h64; omega
    obtain ⟨_, rfl, rfl, rfl, rfl, od⟩ := dg hg.1 hg.2
    obtain ⟨⟨gk1, gk2⟩, ge, gs, gl, gb⟩ := goodB_lt hg
    have od4 := od.ext e4
    have nb : ∀ (b : Nat), h1.size ≤ b → b ≠ h.size := fun b hb => by omega
    refine IfB.eq (fun hk0 => ⟨_, r4.get0 rfl, IfB.eq (fun h3 => ?_) (fun h3 => ?_)⟩) (fun hk0 => ?_)
    · -- a Head
      have hst : stepB k sc p = { sc with headed := true, valid := false, epoch := dE p, first := dS p } := by
        unfold stepB; rw [if_neg (fun hh => hh hg), if_pos ⟨by omega, by omega⟩]
      obtain ⟨ob, hob, rob⟩ := r4.only
      refine ⟨onlyB h2.size ob, sub_only hob, _, rob.get rfl, _, rob.get rfl, _, rfl, ?_⟩
      have hne : h2.size ≠ h.size := nb _ s2
      obtain ⟨ok5, r5, o5, s5⟩ := x4.row.set0 (by simp [scV]) (.bool true)
      refine ⟨ok5, sub_only (by rw [show (nw h) = (⟨h.size, 0, none⟩ : Addr) from rfl, o5 _ hne]; exact hob), _, rfl, ?_⟩
      obtain ⟨ok6, r6, o6, s6⟩ := r5.set (i := 1) (by simp [scV]) (.bool false)
      refine ⟨ok6, sub_only (by rw [show (nw h) = (⟨h.size, 0, none⟩ : Addr) from rfl, o6 _ hne, o5 _ hne]; exact hob), _, rfl, ?_⟩
      obtain ⟨ok7, r7, o7, s7⟩ := r6.set (i := 2) (by simp [scV]) (.int .i64 (dE p : Int))
      refine ⟨ok7, sub_only (by rw [show (nw h) = (⟨h.size, 0, none⟩ : Addr) from rfl, o7 _ hne, o6 _ hne, o5 _ hne]; exact hob), _, rfl, ?_⟩
      obtain ⟨ok8, r8, o8, s8⟩ := r7.set (i := 3) (by simp [scV]) (.int .i64 (dS p : Int))
      refine ⟨ok8, next ⟨?_, fun b hb => ?_⟩ ⟨rs, ws, rr, D, ?_⟩⟩
      · rw [show (nw h) = (⟨h.size, 0, none⟩ : Addr) from rfl, s8, s7, s6, s5]; exact Nat.le_refl _
      · rw [show (nw h) = (⟨h.size, 0, none⟩ : Addr) from rfl, o8 _ (by omega), o7 _ (by omega), o6 _ (by omega), o5 _ (by omega)]
      · rw [hst]
        exact x4.put (s' := { sc with headed := true, valid := false, epoch := dE p, first := dS p }) r8 (by rw [show (nw h) = (⟨h.size, 0, none⟩ : Addr) from rfl, s8, s7, s6, s5]) (fun b hb => by rw [show (nw h) = (⟨h.size, 0, none⟩ : Addr) from rfl, o8 _ hb, o7 _ hb, o6 _ hb, o5 _ hb]) rfl rfl
    all_goals
      have hnh : ¬ (k = 0 ∧ dK p = 3) := by omega
      refine ⟨_, r4.get rfl, _, rfl, _, x4.row.get rfl, IfB.ne (fun hne => drop ?_) (fun heq => ?_)⟩
      · unfold stepB; rw [if_neg (fun hh => hh hg), if_neg hnh, if_pos (by omega)]
      have hee : ¬ dE p ≠ sc.epoch := by omega
      refine ⟨_, r4.get0 rfl, IfB.eq (fun h1' => ?_) (fun h1' => ⟨_, r4.get0 rfl, IfB.eq (fun h2' => ?_) (fun h2' => ⟨_, r4.get0 rfl, IfB.eq (fun h4' => ?_) (fun h4' => ?_)⟩)⟩)⟩
      · -- Data
        have hst : stepB k sc p = { sc with wait := sc.wait ++ [p] } := stepB_data hg (by omega) (by omega)
        have hwb : ∀ a, ws.base = some a → a.block ≠ h.size := x4.mem.wne
        have hwl := (x1.wl).2
        have hwl2 := (x1.wl).1
        have wlt : ∀ a, ws.base = some a → a.block < h1.size := fun a ha => (x1.mem.wown.lt ha).2
        have p1 : notB ws.base h.size = true := notB_of hwb
        have p2 : notB ws.base h2.size = true := notB_of fun a ha => by have := wlt a ha; omega
        have rowf : Row (filt (notB ws.base) h4) h.size (scV sc rs ws) := x4.row.eq (filt_at p1)
        have r4f : Row (filt (notB ws.base) h4) h2.size (blkV (dK p) (dE p) (dS p) (dL p) t) := r4.eq (filt_at p2)
        refine ⟨filt (notB ws.base) h4, sub_filt fun b _ _ => rfl, _, rfl, ws, rowf.get rfl, r4f.get5 ?_⟩
        intro h11
        have e11 : Ext h4 h11 := alc_ext _ _ _
        have sz11 : h11.size = h4.size + 1 := size_alc _ _ _
        refine ⟨sub_filt fun b hb _ => e11.block b hb, ?_⟩
        refine AppC_own5 (news := wc (p, t)) rfl (x4.mem.wown.ext e11) (by omega) rfl (RdC.alc h4 _ _) (blkV_ok _ _ _ _ _) (by simp only; omega) (by simp only; omega) fun q h12 o12 l12 k12 y12 b12 => ?_
        have sub12 : ∀ b, b < h4.size → notB ws.base b = true → h12[b]? = h4[b]? := fun b hb hP => by rw [y12 b (by omega) (notB_ne hP), e11.block b hb]
        refine ⟨sub_filt sub12, _, rfl, ?_⟩
        have sz12 := k12.size
        have row12 : Row h12 h.size (scV sc rs ws) := x4.row.eq (sub12 _ (by omega) p1)
        obtain ⟨ok13, r13, o13, s13⟩ := row12.set (i := 5) (by simp [scV]) (.slice q.base q.len q.cap)
        have hnw : (nw h) = (⟨h.size, 0, none⟩ : Addr) := rfl
        rw [hnw]
        refine ⟨ok13, ?_⟩
        generalize hset h12 ((⟨h.size, 0, none⟩ : Addr).add 5) (.slice q.base q.len q.cap) = h13 at *
        have hq : ∀ a, q.base = some a → ws.base = some a ∨ a.block = h11.size := b12
        have qne : ∀ a, q.base = some a → a.block ≠ h.size := fun a ha => by
          rcases hq a ha with h | h
          · exact hwb a h
          · omega
        have same : ∀ b, b < h4.size → b ≠ h.size → (∀ a, ws.base = some a → b ≠ a.block) → h13[b]? = h4[b]? := fun b hb h1 h2 => by rw [o13 b h1, sub12 b hb (notB_of fun a ha e => h2 a ha e.symm)]
        have aw : ∀ b, Away h.size h4 h.size rs ws b → Away h.size h13 h.size rs q b := fun b ⟨q1, q2, q3, q4, q5⟩ => ⟨q1, by omega, q3, q4, fun a ha => by
          rcases hq a ha with h | h
          · exact q5 a h
          · omega⟩
        have m4 := x4.mem
        have odlt : ∀ a, t.base = some a → h1.size ≤ a.block ∧ a.block < h4.size := fun a ha => by have := od4.lt ha; exact ⟨this.1, this.2⟩
        refine next ⟨by omega, fun b hb => ?_⟩ ⟨rs, q, rr, D ++ [(p, t)], ?_⟩
        · rw [o13 b (by omega), k12.block b hb, e11.block b (by omega)]
        rw [hst]
        refine ⟨r13, Nat.le_refl _, ⟨m4.own.eq fun a ha => same _ (m4.own.lt ha).2 (m4.rne a ha) fun a' ha' => m4.rw a a' ha ha', fun y hy => (m4.reach y hy).eq fun a ha => ?_, fun y hy a ha => aw _ (m4.rb y hy a ha), ?_, fun y hy => ?_, fun y hy a ha => ?_, m4.rne, qne, fun a a' ha ha' => ?_⟩, x4.recs, ?_, fun y hy => ?_⟩
        · obtain ⟨q1, q2, q3, q4, q5⟩ := m4.rb y hy a ha
          exact same _ q2 q3 q5
        · have : wcs (D ++ [(p, t)]) = wcs D ++ wc (p, t) := by rw [wcs_append]; simp [wcs]
          rw [this]
          exact o12.eq fun a ha => o13 _ (qne a ha)
        · rcases List.mem_append.1 hy with hy | hy
          · exact (m4.weach y hy).eq fun a ha => by
              obtain ⟨q1, q2, q3, q4, q5⟩ := m4.wb y hy a ha
              exact same _ q2 q3 q5
          · simp only [List.mem_cons, List.not_mem_nil, or_false] at hy
            subst hy
            exact od4.toRd.eq fun a ha => by
              have := odlt a ha
              exact same _ this.2 (by omega) fun a' ha' => by have := wlt a' ha'; omega
        · rcases List.mem_append.1 hy with hy | hy
          · exact aw _ (m4.wb y hy a ha)
          · simp only [List.mem_cons, List.not_mem_nil, or_false] at hy
            subst hy
            have h1 := odlt a ha
            exact aw _ ⟨by omega, h1.2, by omega, fun a' ha' => by have := (x1.mem.own.lt ha').2; omega, fun a' ha' => by have := wlt a' ha'; omega⟩
        · rcases hq a' ha' with h | h
          · exact m4.rw a a' ha h
          · have := (m4.own.lt ha).2; omega
        · show (D ++ [(p, t)]).map (·.1) = sc.wait ++ [p]
          rw [List.map_append, x4.wait]; rfl
        · rcases List.mem_append.1 hy with hy | hy
          · exact x4.good y hy
          · simp only [List.mem_cons, List.not_mem_nil, or_false] at hy
            subst hy; exact hg
      · -- a Commit
        have hst : stepB k sc p = commitS sc p := by
          unfold stepB; rw [if_neg (fun hh => hh hg), if_neg hnh, if_neg hee, if_neg (by omega), if_pos (by omega)]
        refine r4.get5 ?_
        refine (commit_spec x4 (by omega) hf (by omega) (by omega) hg od4.toRd fun a ha => ?_).mono ?_
        · have := od4.lt ha; omega
        · rintro _ h5 ⟨rfl, k5, hx⟩
          exact ⟨rfl, next k5 (by rw [hst]; exact hx)⟩
      · -- a Mark
        have hst : stepB k sc p = markS sc (dS p) := by
          unfold stepB; rw [if_neg (fun hh => hh hg), if_neg hnh, if_neg hee, if_neg (by omega), if_neg (by omega), if_pos (by omega)]
        refine ⟨_, r4.get rfl, ?_⟩
        refine (mark_spec x4 hf (by omega) (dS p) gs).mono ?_
        rintro _ h5 ⟨rfl, k5, hx⟩
        exact ⟨rfl, next k5 (by rw [hst]; exact hx)⟩
      · have hst : stepB k sc p = sc := by
          unfold stepB; rw [if_neg (fun hh => hh hg), if_neg hnh, if_neg hee, if_neg (by omega), if_neg (by omega), if_neg (by omega)]
        exact next (.refl _ _) ⟨rs, ws, rr, D, by rw [hst]; exact x4⟩
  · obtain rfl : k = rows.length := by omega
    rw [List.drop_of_length_le (by simp), scanGo] at hgo
    subst hgo
    exact ⟨rfl, e1, rs, ws, rr, D, x1⟩

end Go.Proofs.Ytippdkokbhejmaa
