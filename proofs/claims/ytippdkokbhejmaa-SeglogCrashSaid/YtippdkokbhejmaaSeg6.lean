/-
  seglog: First, Len, Dead, Read, Append, Trim.
-/
import Derived.Test.YtippdkokbhejmaaSeg5
namespace Go.Proofs.Ytippdkokbhejmaa
set_option linter.unusedVariables false
set_option linter.unusedSimpArgs false

/-! ### Questions -/
abbrev lp (lb : Nat) : Value := .pointer (some ⟨lb, 0, none⟩)
theorem First_spec {h : Hp} {lb db : Nat} {S : LgV} {rs : Sl} (row : Row h lb (lgC db S rs)) : HCalls Try.prog fn_seglog_Log_First #[lp lb] h fun r h' => r = .int .i64 (S.first : Int) ∧ h' = h := by
  apply seglog_Log_First_vc
  unfold vcseglog_Log_First
  exact .no rfl ⟨_, rfl, _, row.get rfl, rfl, rfl⟩
theorem Len_spec {F : Nat → Nat} {h : Hp} {lb db : Nat} {S : LgV} {rs : Sl} {rr : List (Sl × List UInt8)} (la : LogAt F h lb db S rs rr) (hb : S.first + S.recs.length ≤ 1000000) : HCalls Try.prog fn_seglog_Log_Len #[lp lb] h fun r h' => r = .int .i64 ((S.first + S.recs.length : Nat) : Int) ∧ h' = h := by
  apply seglog_Log_Len_vc
  unfold vcseglog_Log_Len
  have hl := la.rl.1
  refine .no rfl ⟨_, rfl, _, la.row.get rfl, _, rfl, rs, la.row.get rfl, ?_, rfl⟩
  rw [iAdd64 (by omega), hl]; push_cast; rfl
theorem LogDead_spec {h : Hp} {lb db : Nat} {S : LgV} {rs : Sl} (row : Row h lb (lgC db S rs)) : HCalls Try.prog fn_seglog_Log_Dead #[lp lb] h fun r h' => r = .bool S.off ∧ h' = h := by
  apply seglog_Log_Dead_vc
  unfold vcseglog_Log_Dead
  exact .no rfl ⟨_, rfl, _, row.get0 rfl, .no rfl ⟨_, rfl, _, row.get rfl, rfl, rfl⟩⟩
theorem LogRead_spec {F : Nat → Nat} {h : Hp} {lb db : Nat} {S : LgV} {rs : Sl} {rr : List (Sl × List UInt8)} (la : LogAt F h lb db S rs rr) (hb : S.first + S.recs.length ≤ 1000000) (h40 : ∀ r ∈ S.recs, r.length ≤ 40) (k : Int) :
    HCalls Try.prog fn_seglog_Log_Read #[lp lb, .int .i64 k] h fun r h' => Ext h h' ∧ ∃ t : Sl, ∃ e : Int, r = .tuple #[.slice t.base t.len t.cap, .int .i64 e] ∧
      ((¬ ((S.first : Int) ≤ k ∧ k < ((S.first + S.recs.length : Nat) : Int)) ∧ e = 14) ∨ ∃ j : Nat, ∃ hj : j < S.recs.length, k = ((S.first + j : Nat) : Int) ∧ e = 0 ∧ Own h.size 1 h' t (S.recs[j].map bv)) := by
  apply seglog_Log_Read_vc
  unfold vcseglog_Log_Read
  refine (First_spec la.row).mono ?_
  rintro _ _ ⟨rfl, rfl⟩
  refine ⟨_, rfl, IfB.dec (fun h1 => ⟨.refl _, Sl.nil, _, rfl, .inl ⟨by omega, rfl⟩⟩) (fun h1 => ?_)⟩
  refine (Len_spec la hb).mono ?_
  rintro _ _ ⟨rfl, rfl⟩
  refine ⟨_, rfl, IfB.dec (fun h2 => ⟨.refl _, Sl.nil, _, rfl, .inl ⟨by omega, rfl⟩⟩) (fun h2 => ?_)⟩
  obtain ⟨j, hj, rfl⟩ : ∃ j : Nat, j < S.recs.length ∧ k = ((S.first + j : Nat) : Int) := ⟨k.toNat - S.first, by omega, by omega⟩
  have hjr : j < rr.length := by have := la.rl; omega
  have ej : iSub .i64 ((S.first + j : Nat) : Int) (S.first : Int) = (j : Int) := by rw [iSub64 (by omega)]; omega
  refine ⟨_, rfl, rs, la.row.get rfl, _, rfl, _, la.row.get rfl, ?_⟩
  rw [ej]
  refine ixS la.recs.rd.rd la.rl.2 j rfl hjr ?_
  have hval : rr[j].2 = S.recs[j] := by
    have : (rr.map (·.2))[j]? = S.recs[j]? := by rw [la.eq]
    rw [List.getElem?_map, List.getElem?_eq_getElem hjr, List.getElem?_eq_getElem hj] at this
    exact Option.some.inj this
  refine (slClone_spec (la.recs.each _ (List.getElem_mem hjr)) (by rw [hval]; have := h40 _ (List.getElem_mem hj); omega)).mono ?_
  rintro _ h3 ⟨t, rfl, ot, _, e3⟩
  rw [hval] at ot
  exact ⟨t, rfl, e3, e3, t, _, rfl, .inr ⟨j, hj, rfl, rfl, ot⟩⟩

/-! ### Bounds of what is read -/
theorem step_40 (i : Nat) (s : Sc) (p : List UInt8) (h1 : ∀ r ∈ s.recs, r.length ≤ 40) (h2 : ∀ q ∈ s.wait, goodB q) : (∀ r ∈ (stepB i s p).recs, r.length ≤ 40) ∧ ∀ q ∈ (stepB i s p).wait, goodB q := by
  by_cases g : goodB p
  · unfold stepB
    rw [if_neg (fun hh => hh g)]
    split
    · exact ⟨h1, h2⟩
    split
    · exact ⟨h1, fun q hq => by simp at hq⟩
    split
    · refine ⟨h1, fun q hq => ?_⟩
      rcases List.mem_append.1 hq with hq | hq
      · exact h2 q hq
      · simp only [List.mem_cons, List.not_mem_nil, or_false] at hq; subst hq; exact g
    split
    · unfold commitS
      split
      · exact ⟨h1, fun q hq => by simp at hq⟩
      split
      · exact ⟨h1, fun q hq => by simp at hq⟩
      split
      · exact ⟨h1, fun q hq => by simp at hq⟩
      · refine ⟨fun r hr => ?_, fun q hq => by simp at hq⟩
        rcases List.mem_append.1 hr with hr | hr
        · exact h1 r hr
        · obtain ⟨y, hy, rfl⟩ := List.mem_map.1 hr
          exact (goodB_lt (h2 y (List.mem_of_mem_drop hy))).2.2.2.2
    split
    · unfold markS
      split
      · exact ⟨fun r hr => h1 r (List.mem_of_mem_drop hr), fun q hq => by simp at hq⟩
      · exact ⟨h1, fun q hq => by simp at hq⟩
    · exact ⟨h1, h2⟩
  · rw [stepB_bad g]
    exact ⟨h1, fun q hq => by simp at hq⟩
theorem scan_40 : ∀ (l : List (List UInt8)) (i : Nat) (s : Sc), (∀ r ∈ s.recs, r.length ≤ 40) → (∀ q ∈ s.wait, goodB q) → ∀ r ∈ (scanGo l i s).recs, r.length ≤ 40
  | [], i, s, h1, _ => h1
  | p :: l, i, s, h1, h2 => by
    rw [scanGo]
    exact scan_40 l (i + 1) _ (step_40 i s p h1 h2).1 (step_40 i s p h1 h2).2
theorem LgPre.recs40 {d : Dv} {S : LgV} (v : LgPre d S) : ∀ r ∈ S.recs, r.length ≤ 40 := by
  obtain ⟨hd, hsc, _⟩ := v.scan
  simp only [Sc.core, Prod.mk.injEq] at hsc
  rw [← hsc.2.2.2.2]
  exact scan_40 _ 0 sc0 (fun r hr => by simp [sc0] at hr) (fun r hr => by simp [sc0] at hr)
theorem LgInv.count {d : Dv} {S : LgV} (v : LgInv d S) : S.recs.length + flg S.recs ≤ S.pos ∧ S.pos ≤ S.count * S.size := by
  obtain ⟨hd, hsc, _⟩ := v.pre.scan
  simp only [Sc.core, Prod.mk.injEq] at hsc
  have h1 := scanL_count (S.B d)
  rw [hsc.2.2.2.2] at h1
  have h2 := zRows_le v.pre.wf S.count (S.base S.half)
  rw [v.pos]
  refine ⟨h1, ?_⟩
  rw [v.pre.size]; exact h2
theorem LgInv.ok {d : Dv} {S : LgV} (v : LgInv d S) (he : S.epoch ≤ 1000000) (hf : S.first ≤ 1000000) : S.Ok := by
  have hn := v.pre.n
  have hz := v.pre.wf.zones
  have hs := v.pre.wf.size
  have hsz := v.pre.size
  have hc := v.count
  have : S.count * S.size ≤ 64 * 192 := Nat.mul_le_mul (by omega) (by omega)
  exact ⟨⟨by omega, by omega, by omega, v.pre.half⟩, he, by omega, hf, by omega⟩

/-! ### Append -/
noncomputable def appV (d : Dv) (S : LgV) (R : List (List UInt8)) : Int × Dv × LgV := putV d S (grpL S.epoch (S.first + S.recs.length) R) S.first (S.recs ++ R)
/-- bounds for laws: so much can be appended. -/
structure Small (S : LgV) (n : Nat) : Prop where
  e : S.epoch ≤ 100000
  f : S.first + S.recs.length + n ≤ 100000
theorem app_put {d : Dv} {S : LgV} {R : List (List UInt8)} (v : LgInv d S) (hs : Small S R.length) (h40 : ∀ r ∈ R, r.length ≤ 40) : PutR d S (grpL S.epoch (S.first + S.recs.length) R) S.first (S.recs ++ R) (appV d S R) := by
  have he := hs.e
  have hf := hs.f
  refine put_any v (Blk.grp ⟨by omega, by omega, h40⟩) ⟨by omega, by rw [List.length_append]; omega, fun r hr => ?_⟩
  rcases List.mem_append.1 hr with hr | hr
  · exact v.pre.recs40 r hr
  · exact h40 r hr
theorem over40_spec {h : Hp} {s : Sl} {l : List UInt8} (r : Rd 1 h s (l.map bv)) : HCalls Try.prog fn_seglog_Log_Append_1 #[.slice s.base s.len s.cap] h fun r h' => r = .bool (decide (40 < l.length)) ∧ h' = h := by
  apply seglog_Log_Append_1_vc
  unfold vcseglog_Log_Append_1
  have := r.lenB
  refine ⟨?_, rfl⟩
  congr 1
  rw [decide_eq_decide]; omega
theorem logAppend_spec {lo : Nat} {F : Nat → Nat} {h : Hp} {db lb : Nat} {d : Dv} {S : LgV} {rs : Sl} {rr : List (Sl × List UInt8)} (x : DevAt lo F h db d) (hlo : lo ≤ h.size) (la : LogAt F h lb db S rs rr) (v : LgInv d S) (hon : S.off = false) {s : Sl} {R : List (Sl × List UInt8)} (hs : Small S R.length)
    (r : RowsR h s R) (ri : RowsIn (fun b => F b = 0 ∧ b < h.size ∧ b ≠ lb) s R) (h1 : 1 ≤ R.length) (h2 : R.length ≤ 40) (h40 : ∀ p ∈ R, p.2.length ≤ 40) :
    HCalls Try.prog fn_seglog_Log_Append #[lp lb, .slice s.base s.len s.cap] h fun w h' => (w = .tuple #[.int .i64 (if (appV d S (R.map (·.2))).1 = 0 then ((S.first + S.recs.length : Nat) : Int) else 0), .int .i64 (appV d S (R.map (·.2))).1]) ∧
      ∃ rs' rr', LgOut lo F h lb db (appV d S (R.map (·.2))).2.1 (appV d S (R.map (·.2))).2.2 rs' rr' h' ∧ ∀ P : Nat → Prop, RowsIn P rs rr → (∀ b, h.size ≤ b → P b) → RowsIn P rs' rr' := by
  apply seglog_Log_Append_vc
  unfold vcseglog_Log_Append
  have hl := r.len
  have he := hs.e
  have hf := hs.f
  have hrl := la.rl
  have o := v.ok (by omega) (by omega)
  have hlb := la.row.lt
  refine .no (by simp; omega) (.no (by simp; omega) ?_)
  refine (rowsContains_spec (f := fn_seglog_Log_Append_1) (p := fun l => decide (40 < l.length)) r.rd.rd hl r.each (by omega) fun x hx c rc => over40_spec rc).mono ?_
  rintro _ h1' ⟨rfl, hh⟩
  obtain rfl := hh.symm
  have hno : (R.any fun x => decide (40 < x.2.length)) = false := by
    rw [List.any_eq_false]
    intro p hp
    have := h40 p hp
    simp; omega
  refine ⟨_, rfl, .no hno ?_⟩
  refine (LogDead_spec la.row).mono ?_
  rintro _ h1' ⟨rfl, hh⟩
  obtain rfl := hh.symm
  refine ⟨_, rfl, .no hon ?_⟩
  refine (Len_spec la (by omega)).mono ?_
  rintro _ h1' ⟨rfl, hh⟩
  obtain rfl := hh.symm
  refine ⟨_, rfl, _, rfl, rs, la.row.get rfl, ?_⟩
  refine (rowsClone_spec la.recs.rd (slV_all rr) (by rw [List.length_map]; omega)).mono ?_
  rintro _ h3 ⟨t, rfl, ot, lt, e3⟩
  refine ⟨t, rfl, ?_⟩
  rw [List.length_map] at lt
  have Fz : ∀ b, h.size ≤ b → F b = 0 := fun b hb => x.free hb
  -- the records, and copies of the new ones
  refine ⟨fun all i m h' => ∃ (k : Nat) (C : List (Sl × List UInt8)), i = k ∧ m + k = R.length ∧ Ext h h' ∧ Own h.size 1 h' all ((rr ++ C).map fun p => slV p.1) ∧ C.map (·.2) = (R.map (·.2)).take k ∧ C.length = k ∧ (∀ p ∈ C, Rd 1 h' p.1 (p.2.map bv)) ∧ ∀ p ∈ C, ∀ a, p.1.base = some a → h.size ≤ a.block ∧ a.block < h'.size ∧ ∀ a', all.base = some a' → a.block ≠ a'.block, R.length,
    ⟨0, [], rfl, rfl, e3, by simpa using ot, rfl, rfl, fun p hp => by simp at hp, fun p hp => by simp at hp⟩, ?_⟩
  rintro _ all _ m h4 ⟨k, C, rfl, hm, e4, o4, hC, hCl, hCr, hCb⟩
  have s4 := e4.size
  have hal : all.len = rr.length + k := by have := o4.len; simp at this; omega
  refine IfB.dec (fun hlt => ?_) (fun hge => ?_)
  · have hk : k < R.length := by omega
    have hmem : R[k] ∈ R := List.getElem_mem hk
    refine ixS (r.rd.ext e4).rd hl k rfl hk ?_
    refine (slClone_spec ((r.each _ hmem).ext e4) (by have := h40 _ hmem; omega)).mono ?_
    rintro _ h5 ⟨u, rfl, ou, lu, e5⟩
    refine ⟨u, rfl, ?_⟩
    have s5 := e5.size
    intro h6
    have sz6 : h6.size = h5.size + 1 := size_alc _ _ _
    refine AppC_own5 (news := [slV u]) (l := (rr ++ C).map fun p => slV p.1) rfl ((o4.ext e5).ext (alc_ext h5 _ _)) (by rw [size_alc]; omega) rfl (RdC.alc h5 _ _) (fun v hv => by simp at hv; subst hv; rfl) (by simp only; omega) (by simp only; omega) fun q h7 o7 l7 k7 y7 b7 => ?_
    have s7 := k7.size
    rw [size_alc] at s7
    have e47 : Ext h h7 := (e4.toKeep.trans (((e5.trans (alc_ext h5 [slV u] ty_suint8)).keep s4).trans k7)).ext
    have hq : ∀ a, q.base = some a → all.base = some a ∨ h5.size ≤ a.block := fun a ha => by
      rcases b7 a ha with h | h
      · exact .inl h
      · right
        have : (alc h5 [slV u] ty_suint8).size = h5.size + 1 := size_alc _ _ _
        omega
    have alt : ∀ a, all.base = some a → a.block < h4.size := fun a ha => (o4.lt ha).2
    have same : ∀ b, b < h5.size → (∀ a, all.base = some a → b ≠ a.block) → h7[b]? = h5[b]? := fun b hb hne => by
      rw [y7 b (by rw [size_alc]; omega) hne, alc_old _ _ _ hb]
    refine ⟨m - 1, by omega, k + 1, C ++ [(u, R[k].2)], by rw [iAdd64 (by omega)]; push_cast; rfl, by omega, e47, ?_, ?_, by simp [hCl], fun p hp => ?_, fun p hp a ha => ?_⟩
    · have : ((rr ++ (C ++ [(u, R[k].2)])).map fun p => slV p.1) = ((rr ++ C).map fun p => slV p.1) ++ [slV u] := by simp
      rw [this]; exact o7
    · rw [List.map_append, hC, List.take_succ_eq_append_getElem (by simpa using hk)]; simp
    · rcases List.mem_append.1 hp with hp | hp
      · exact ((hCr p hp).ext e5).eq fun a ha => same _ (by have := (hCb p hp a ha).2.1; omega) (hCb p hp a ha).2.2
      · simp only [List.mem_cons, List.not_mem_nil, or_false] at hp
        subst hp
        exact ou.toRd.eq fun a ha => same _ (ou.lt ha).2 fun a' ha' => by have := (ou.lt ha).1; have := alt a' ha'; omega
    · rcases List.mem_append.1 hp with hp | hp
      · obtain ⟨q1, q2, q3⟩ := hCb p hp a ha
        refine ⟨q1, by omega, fun a' ha' => ?_⟩
        rcases hq a' ha' with h | h
        · exact q3 a' h
        · omega
      · simp only [List.mem_cons, List.not_mem_nil, or_false] at hp
        subst hp
        have h8 := ou.lt ha
        refine ⟨by omega, by omega, fun a' ha' => ?_⟩
        rcases hq a' ha' with h | h
        · have := alt a' h; omega
        · rcases b7 a' ha' with h9 | h9
          · have := alt a' h9; omega
          · have : (alc h5 [slV u] ty_suint8).size = h5.size + 1 := size_alc _ _ _
            omega
  -- all of them
  obtain rfl : k = R.length := by omega
  have hC' : C.map (·.2) = R.map (·.2) := by rw [hC, List.take_of_length_le (by simp)]
  have la4 := la.ext e4
  have rall : RowsR h4 all (rr ++ C) := ⟨o4.toRd, fun p hp => by
    rcases List.mem_append.1 hp with hp | hp
    · exact la4.recs.each p hp
    · exact hCr p hp⟩
  have riall : RowsIn (fun b => F b = 0 ∧ b < h4.size ∧ b ≠ lb) all (rr ++ C) := ⟨fun a ha => by
    have := o4.lt ha
    exact ⟨Fz _ this.1, this.2, by omega⟩, fun p hp a ha => by
    rcases List.mem_append.1 hp with hp | hp
    · exact la4.rin.each p hp a ha
    · have := hCb p hp a ha
      exact ⟨Fz _ this.1, this.2.1, by omega⟩⟩
  have hall : (rr ++ C).map (·.2) = S.recs ++ R.map (·.2) := by rw [List.map_append, la.eq, hC']
  have g1 : GrpOk S.epoch (S.first + S.recs.length) (R.map (·.2)) := ⟨by omega, by rw [List.length_map]; omega, fun q hq => by obtain ⟨p, hp, rfl⟩ := List.mem_map.1 hq; exact h40 p hp⟩
  have g2 : GrpOk (S.epoch + 1) S.first ((rr ++ C).map (·.2)) := ⟨by omega, by rw [List.length_map, List.length_append]; omega, fun q hq => by
    rw [hall] at hq
    rcases List.mem_append.1 hq with hq | hq
    · exact v.pre.recs40 q hq
    · obtain ⟨p, hp, rfl⟩ := List.mem_map.1 hq; exact h40 p hp⟩
  have x4 := x.ext e4
  have go : HCalls Try.prog fn_seglog_group #[.int .i64 (S.epoch : Int), .int .i64 ((S.first + S.recs.length : Nat) : Int), .slice s.base s.len s.cap] h4 fun r5 vh8 =>
      ∃ c8 : Sl, r5 = .slice c8.base c8.len c8.cap ∧ Row vh8 lb (lgC db S rs) ∧
      HCalls Try.prog fn_seglog_Log_put #[lp lb, .slice c8.base c8.len c8.cap, .int .i64 (S.first : Int), .slice all.base all.len all.cap] vh8 fun r6 vh9 =>
      ∃ c10 : Int, r6 = .int .i64 c10 ∧
      IfB (c10 != (0 : Int)) ((Value.tuple #[.int .i64 (0 : Int), .int .i64 c10] = .tuple #[.int .i64 (if (appV d S (R.map (·.2))).1 = 0 then ((S.first + S.recs.length : Nat) : Int) else 0), .int .i64 (appV d S (R.map (·.2))).1]) ∧ ∃ rs' rr', LgOut lo F h lb db (appV d S (R.map (·.2))).2.1 (appV d S (R.map (·.2))).2.2 rs' rr' vh9 ∧ ∀ P : Nat → Prop, RowsIn P rs rr → (∀ b, h.size ≤ b → P b) → RowsIn P rs' rr')
      ((Value.tuple #[.int .i64 ((S.first + S.recs.length : Nat) : Int), .int .i64 (0 : Int)] = .tuple #[.int .i64 (if (appV d S (R.map (·.2))).1 = 0 then ((S.first + S.recs.length : Nat) : Int) else 0), .int .i64 (appV d S (R.map (·.2))).1]) ∧ ∃ rs' rr', LgOut lo F h lb db (appV d S (R.map (·.2))).2.1 (appV d S (R.map (·.2))).2.2 rs' rr' vh9 ∧ ∀ P : Nat → Prop, RowsIn P rs rr → (∀ b, h.size ≤ b → P b) → RowsIn P rs' rr') := by
    refine (group_spec (r.ext e4) g1).mono ?_
    rintro _ h5 ⟨t5, bl, rfl, o5, hbl, e5⟩
    have s5 := e5.size
    have la5 := la4.ext e5
    refine ⟨t5, rfl, la5.row, ?_⟩
    have hbll : bl.length = R.length + 1 := by
      have := congrArg List.length hbl
      rw [List.length_map, grpL_length, List.length_map] at this; omega
    refine (logPut_spec (x4.ext e5) (by omega) la5 o v.pre.n (f := S.first) (rows := rr ++ C) (bl := bl) o5.rowsR (o5.rowsIn.mono fun b hb => ⟨Fz _ (by omega), hb.2⟩) (by omega) (rall.ext e5) (riall.mono fun b hb => ⟨hb.1, by omega, hb.2.2⟩) g2).mono ?_
    rw [hbl, hall]
    rintro _ h6 ⟨rfl, rs', rr', ⟨F6, x6, la6, s6, g6, y6⟩, P6⟩
    have e05 := e4.trans e5
    have out : ∃ rs' rr', LgOut lo F h lb db (appV d S (R.map (·.2))).2.1 (appV d S (R.map (·.2))).2.2 rs' rr' h6 ∧ ∀ P : Nat → Prop, RowsIn P rs rr → (∀ b, h.size ≤ b → P b) → RowsIn P rs' rr' := ⟨rs', rr', ⟨F6, x6, la6, by omega, fun b hb => g6 b (by omega), fun b hb hF hne => by rw [y6 b (by omega) hF hne, e05.block b hb]⟩, fun P hP hnew => P6 P hP ⟨fun a ha => hnew _ (o4.lt ha).1, fun p hp a ha => by
      rcases List.mem_append.1 hp with hp | hp
      · exact hP.each p hp a ha
      · exact hnew _ (hCb p hp a ha).1⟩⟩
    refine ⟨_, rfl, IfB.ne (fun hne => ⟨?_, out⟩) (fun heq => ⟨?_, out⟩)⟩
    · rw [if_neg (show ¬ (appV d S (R.map (·.2))).1 = 0 from hne)]; rfl
    · rw [if_pos (show (appV d S (R.map (·.2))).1 = 0 from heq), show (appV d S (R.map (·.2))).1 = 0 from heq]
  refine ⟨_, rfl, _, rfl, ⟨_, la4.row.get rfl, trivial, ?_, _, la4.row.get rfl, trivial, ?_⟩, _, la4.row.get rfl, trivial, _, la4.row.get rfl, trivial, ?_⟩
  · refine go.mono ?_
    rintro _ h5 ⟨c8, rfl, row5, hp⟩
    refine ⟨c8, rfl, trivial, _, row5.get rfl, trivial, hp.mono ?_⟩
    rintro _ h6 ⟨c10, rfl, hh⟩
    exact ⟨c10, rfl, trivial, hh⟩
  all_goals
    refine go.mono ?_
    rintro _ h5 ⟨c8, rfl, row5, hp⟩
    refine ⟨c8, rfl, trivial, hp.mono ?_⟩
    rintro _ h6 ⟨c10, rfl, hh⟩
    exact ⟨c10, rfl, trivial, hh⟩
/-- what is refused. -/
theorem logAppendBad_spec {h : Hp} (l : Option Addr) {s : Sl} {R : List (Sl × List UInt8)} (r : RowsR h s R) (hmax : R.length ≤ 100000) (hbad : R.length = 0 ∨ 40 < R.length ∨ ∃ p ∈ R, 40 < p.2.length) :
    HCalls Try.prog fn_seglog_Log_Append #[.pointer l, .slice s.base s.len s.cap] h fun w h' => w = .tuple #[.int .i64 0, .int .i64 (if R.length = 0 then 1 else 7)] ∧ h' = h := by
  apply seglog_Log_Append_vc
  unfold vcseglog_Log_Append
  have hl := r.len
  refine IfB.eq (fun h0 => ⟨by rw [if_pos (by omega)], rfl⟩) (fun h0 => IfB.dec (fun h1 => ⟨by rw [if_neg (by omega)], rfl⟩) (fun h1 => ?_))
  refine (rowsContains_spec (f := fn_seglog_Log_Append_1) (p := fun l => decide (40 < l.length)) r.rd.rd hl r.each (by omega) fun x hx c rc => over40_spec rc).mono ?_
  rintro _ h1' ⟨rfl, hh⟩
  obtain rfl := hh.symm
  have hyes : (R.any fun x => decide (40 < x.2.length)) = true := by
    rcases hbad with h | h | ⟨p, hp, h⟩
    · omega
    · omega
    · rw [List.any_eq_true]; exact ⟨p, hp, by simpa using h⟩
  exact ⟨_, rfl, .yes hyes ⟨by rw [if_neg (by omega)], rfl⟩⟩

/-! ### Trim -/
noncomputable def trimV (d : Dv) (S : LgV) (k : Nat) : Int × Dv × LgV := if k = S.first then (0, d, S) else putV d S [markB S.epoch k] k (S.recs.drop (k - S.first))
theorem trim_put {d : Dv} {S : LgV} {k : Nat} (v : LgInv d S) (hs : Small S 0) (h1 : S.first ≤ k) (h2 : k ≤ S.first + S.recs.length) (hne : k ≠ S.first) : PutR d S [markB S.epoch k] k (S.recs.drop (k - S.first)) (trimV d S k) := by
  have he := hs.e
  have hf := hs.f
  unfold trimV
  rw [if_neg hne]
  refine put_any v (Blk.mark (by omega) (by omega) h1 h2) ⟨by omega, by rw [List.length_drop]; omega, fun r hr => v.pre.recs40 r (List.mem_of_mem_drop hr)⟩
theorem logTrim_spec {lo : Nat} {F : Nat → Nat} {h : Hp} {db lb : Nat} {d : Dv} {S : LgV} {rs : Sl} {rr : List (Sl × List UInt8)} (x : DevAt lo F h db d) (hlo : lo ≤ h.size) (la : LogAt F h lb db S rs rr) (v : LgInv d S) (hon : S.off = false) (hs : Small S 0) {k : Nat} (h1 : S.first ≤ k) (h2 : k ≤ S.first + S.recs.length) :
    HCalls Try.prog fn_seglog_Log_Trim #[lp lb, .int .i64 (k : Int)] h fun w h' => w = .int .i64 (trimV d S k).1 ∧ ∃ rs' rr', LgOut lo F h lb db (trimV d S k).2.1 (trimV d S k).2.2 rs' rr' h' ∧ ∀ P : Nat → Prop, RowsIn P rs rr → (∀ b, h.size ≤ b → P b) → RowsIn P rs' rr' := by
  apply seglog_Log_Trim_vc
  unfold vcseglog_Log_Trim
  have he := hs.e
  have hf := hs.f
  have hrl := la.rl
  have o := v.ok (by omega) (by omega)
  have Fz : ∀ b, h.size ≤ b → F b = 0 := fun b hb => x.free hb
  have hlb := la.row.lt
  refine (First_spec la.row).mono ?_
  rintro _ h1' ⟨rfl, hh⟩
  obtain rfl := hh.symm
  refine ⟨_, rfl, .no (by simp; omega) ?_⟩
  refine (Len_spec la (by omega)).mono ?_
  rintro _ h1' ⟨rfl, hh⟩
  obtain rfl := hh.symm
  refine ⟨_, rfl, .no (by simp; omega) ?_⟩
  refine (LogDead_spec la.row).mono ?_
  rintro _ h1' ⟨rfl, hh⟩
  obtain rfl := hh.symm
  refine ⟨_, rfl, .no hon ⟨_, rfl, _, la.row.get rfl, IfB.eq (fun heq => ?_) (fun hne => ?_)⟩⟩
  · have hk : k = S.first := by omega
    unfold trimV
    rw [if_pos hk]
    exact ⟨rfl, rs, rr, LgOut.of la (DevTo.refl x), fun P h _ => h⟩
  have hk : k ≠ S.first := by omega
  unfold trimV
  rw [if_neg hk]
  refine ⟨_, rfl, _, la.row.get rfl, ?_⟩
  refine (enc_spec (h := h) (u := Sl.nil) (bs := []) (Rd.nil _ _) (k := 4) (e := S.epoch) (s := k) (l := 0) (by omega) (by omega) (by omega) (by omega) (by simp)).mono ?_
  rintro _ h3 ⟨u, rfl, ou, e3⟩
  refine ⟨u, _, rfl, _, rfl, _, rfl, ?_⟩
  have s3 := e3.size
  have ek : iSub .i64 (k : Int) (S.first : Int) = ((k - S.first : Nat) : Int) := by rw [iSub64 (by omega)]; omega
  have hcap := la.recs.rd.cap
  have hd2 : (rr.drop (k - S.first)).map (·.2) = S.recs.drop (k - S.first) := by rw [List.map_drop, la.eq]
  have g2 : GrpOk (S.epoch + 1) k ((rr.drop (k - S.first)).map (·.2)) := ⟨by omega, by rw [List.length_map, List.length_drop]; omega, fun q hq => by rw [hd2] at hq; exact v.pre.recs40 q (List.mem_of_mem_drop hq)⟩
  have hG : ∀ {h9 : Hp}, Ext h3 h9 → ∀ {i : Nat} {w : Value}, (lgC db S rs)[i]? = some w → hcell h9 ((⟨lb, 0, none⟩ : Addr).add i) = some w := fun e9 i w hw => ((la.row.ext e3).ext e9).get hw
  -- the copy of what is left
  have clone : ∀ {h9 : Hp}, Ext h3 h9 → HCalls Try.prog fn_slices_Clone_ssbytesbyte #[.slice (cutSl rs ((k - S.first : Nat) : Int) (rs.len : Int) (rs.cap : Int) 1).base (cutSl rs ((k - S.first : Nat) : Int) (rs.len : Int) (rs.cap : Int) 1).len (cutSl rs ((k - S.first : Nat) : Int) (rs.len : Int) (rs.cap : Int) 1).cap] h9 fun r h' => ∃ t : Sl, r = .slice t.base t.len t.cap ∧ Own h9.size 1 h' t ((rr.drop (k - S.first)).map fun p => slV p.1) ∧ Ext h9 h' := fun e9 => by
    have rd := (((la.recs.ext e3).ext e9).drop (k := k - S.first) (by omega)).rd
    refine (rowsClone_spec rd (slV_all _) (by rw [List.length_map, List.length_drop]; omega)).mono ?_
    rintro _ h10 ⟨t, rfl, ot, _, e10⟩
    exact ⟨t, rfl, ot, e10⟩
  -- the last step
  have fin : ∀ {h9 : Hp} {p9 t9 : Sl}, Ext h3 h9 → Rd 1 h9 p9 [slV u] → (∀ a, p9.base = some a → h3.size ≤ a.block ∧ a.block < h9.size) → Own h3.size 1 h9 t9 ((rr.drop (k - S.first)).map fun p => slV p.1) → 
      HCalls Try.prog fn_seglog_Log_put #[lp lb, .slice p9.base p9.len p9.cap, .int .i64 (k : Int), .slice t9.base t9.len t9.cap] h9 fun r5 vh6 => ∃ c10 : Int, r5 = .int .i64 c10 ∧ True ∧ (Value.int .i64 c10 = .int .i64 (putV d S [markB S.epoch k] k (S.recs.drop (k - S.first))).1 ∧ ∃ rs' rr', LgOut lo F h lb db (putV d S [markB S.epoch k] k (S.recs.drop (k - S.first))).2.1 (putV d S [markB S.epoch k] k (S.recs.drop (k - S.first))).2.2 rs' rr' vh6 ∧ ∀ P : Nat → Prop, RowsIn P rs rr → (∀ b, h.size ≤ b → P b) → RowsIn P rs' rr') := by
    intro h9 p9 t9 e9 rp bp ot
    have s9 := e9.size
    have e09 := e3.trans e9
    have la9 := la.ext e09
    refine (logPut_spec (x.ext e09) (by omega) la9 o v.pre.n (f := k) (s := t9) (t := p9) (rows := rr.drop (k - S.first)) (bl := [(u, markB S.epoch k)]) ⟨rp, fun p hp => ?_⟩ ⟨fun a ha => ?_, fun p hp a ha => ?_⟩ (by simp) ⟨ot.toRd, fun p hp => la9.recs.each p (List.mem_of_mem_drop hp)⟩ ⟨fun a ha => ?_, fun p hp => la9.rin.each p (List.mem_of_mem_drop hp)⟩ g2).mono ?_
    · simp only [List.mem_cons, List.not_mem_nil, or_false] at hp
      subst hp; exact ou.toRd.ext e9
    · have := bp a ha; exact ⟨Fz _ (by omega), this.2⟩
    · simp only [List.mem_cons, List.not_mem_nil, or_false] at hp
      subst hp
      have := ou.lt ha; exact ⟨Fz _ (by omega), by omega⟩
    · have := ot.lt ha; exact ⟨Fz _ (by omega), this.2, by omega⟩
    · rw [hd2]
      rintro _ h6 ⟨rfl, rs', rr', ⟨F6, x6, la6, s6, g6, y6⟩, P6⟩
      exact ⟨_, rfl, trivial, rfl, rs', rr', ⟨F6, x6, la6, by omega, fun b hb => g6 b (by omega), fun b hb hF hne => by rw [y6 b (by omega) hF hne, e09.block b hb]⟩, fun P hP hnew => P6 P hP ⟨fun a ha => hnew _ (by have := (ot.lt ha).1; omega), fun p hp a ha => hP.each p (List.mem_of_mem_drop hp) a ha⟩⟩
  have bd : 0 ≤ ((k - S.first : Nat) : Int) ∧ ((k - S.first : Nat) : Int) ≤ (rs.len : Int) ∧ (rs.len : Int) ≤ (rs.cap : Int) ∧ (rs.cap : Int) ≤ (rs.cap : Int) := ⟨by omega, by omega, by omega, Int.le_refl _⟩
  have e4 : Ext h3 (alc h3 [.slice u.base u.len u.cap] ty_suint8) := alc_ext _ _ _
  have sz4 : (alc h3 [.slice u.base u.len u.cap] ty_suint8).size = h3.size + 1 := size_alc _ _ _
  have rp4 : RdC (alc h3 [.slice u.base u.len u.cap] ty_suint8) (some (nw h3)) [slV u] := RdC.alc h3 _ _
  -- first the block's row, then the copy
  have ab : HCalls Try.prog fn_slices_Clone_ssbytesbyte #[.slice (cutSl rs ((k - S.first : Nat) : Int) (rs.len : Int) (rs.cap : Int) 1).base (cutSl rs ((k - S.first : Nat) : Int) (rs.len : Int) (rs.cap : Int) 1).len (cutSl rs ((k - S.first : Nat) : Int) (rs.len : Int) (rs.cap : Int) 1).cap] (alc h3 [.slice u.base u.len u.cap] ty_suint8) fun r4 vh5 =>
      ∃ c9 : Sl, r4 = .slice c9.base c9.len c9.cap ∧ True ∧
      HCalls Try.prog fn_seglog_Log_put #[lp lb, .slice (Sl.mk (some (nw h3)) 1 1).base (Sl.mk (some (nw h3)) 1 1).len (Sl.mk (some (nw h3)) 1 1).cap, .int .i64 (k : Int), .slice c9.base c9.len c9.cap] vh5 fun r5 vh6 => ∃ c10 : Int, r5 = .int .i64 c10 ∧ True ∧ (Value.int .i64 c10 = .int .i64 (putV d S [markB S.epoch k] k (S.recs.drop (k - S.first))).1 ∧ ∃ rs' rr', LgOut lo F h lb db (putV d S [markB S.epoch k] k (S.recs.drop (k - S.first))).2.1 (putV d S [markB S.epoch k] k (S.recs.drop (k - S.first))).2.2 rs' rr' vh6 ∧ ∀ P : Nat → Prop, RowsIn P rs rr → (∀ b, h.size ≤ b → P b) → RowsIn P rs' rr') := by
    refine (clone e4).mono ?_
    rintro _ h5 ⟨t, rfl, ot, e5⟩
    refine ⟨t, rfl, trivial, fin (e4.trans e5) ⟨rfl, Nat.le_refl _, rp4.ext e5⟩ (fun a ha => ?_) (ot.weak (by omega))⟩
    cases ha
    exact ⟨Nat.le_refl _, by have := e5.size; show h3.size < _; omega⟩
  -- first the copy, then the block's row
  have ba : HCalls Try.prog fn_slices_Clone_ssbytesbyte #[.slice (cutSl rs ((k - S.first : Nat) : Int) (rs.len : Int) (rs.cap : Int) 1).base (cutSl rs ((k - S.first : Nat) : Int) (rs.len : Int) (rs.cap : Int) 1).len (cutSl rs ((k - S.first : Nat) : Int) (rs.len : Int) (rs.cap : Int) 1).cap] h3 fun r4 vh5 =>
      ∃ c9 : Sl, r4 = .slice c9.base c9.len c9.cap ∧ True ∧
      (let vh6 := alc vh5 [.slice u.base u.len u.cap] ty_suint8;
      True ∧ HCalls Try.prog fn_seglog_Log_put #[lp lb, .slice (Sl.mk (some (nw vh5)) 1 1).base (Sl.mk (some (nw vh5)) 1 1).len (Sl.mk (some (nw vh5)) 1 1).cap, .int .i64 (k : Int), .slice c9.base c9.len c9.cap] vh6 fun r5 vh6 => ∃ c10 : Int, r5 = .int .i64 c10 ∧ True ∧ (Value.int .i64 c10 = .int .i64 (putV d S [markB S.epoch k] k (S.recs.drop (k - S.first))).1 ∧ ∃ rs' rr', LgOut lo F h lb db (putV d S [markB S.epoch k] k (S.recs.drop (k - S.first))).2.1 (putV d S [markB S.epoch k] k (S.recs.drop (k - S.first))).2.2 rs' rr' vh6 ∧ ∀ P : Nat → Prop, RowsIn P rs rr → (∀ b, h.size ≤ b → P b) → RowsIn P rs' rr')) := by
    refine (clone (.refl h3)).mono ?_
    rintro _ h5 ⟨t, rfl, ot, e5⟩
    have s5 := e5.size
    have e6 : Ext h5 (alc h5 [.slice u.base u.len u.cap] ty_suint8) := alc_ext _ _ _
    have sz6 : (alc h5 [.slice u.base u.len u.cap] ty_suint8).size = h5.size + 1 := size_alc _ _ _
    refine ⟨t, rfl, trivial, trivial, fin (e5.trans e6) ⟨rfl, Nat.le_refl _, RdC.alc h5 [slV u] _⟩ (fun a ha => ?_) (ot.ext e6)⟩
    cases ha
    exact ⟨by show h3.size ≤ h5.size; omega, by show h5.size < _; omega⟩
  have g8 : ∀ {h9 : Hp}, Ext h3 h9 → hcell h9 ((⟨lb, 0, none⟩ : Addr).add 8) = some (.slice rs.base rs.len rs.cap) := fun e9 => hG e9 rfl
  have g7 : ∀ {h9 : Hp}, Ext h3 h9 → hcell h9 ((⟨lb, 0, none⟩ : Addr).add 7) = some (.int .i64 (S.first : Int)) := fun e9 => hG e9 rfl
  refine ⟨⟨trivial, ⟨rs, g8 e4, trivial, _, g7 e4, trivial, ?_⟩, _, g7 e4, trivial, rs, g8 e4, trivial, ?_⟩, ⟨rs, g8 (.refl _), trivial, ⟨trivial, _, g7 e4, trivial, ?_⟩, _, g7 (.refl _), trivial, ?_⟩, _, g7 (.refl _), trivial, ⟨trivial, rs, g8 e4, trivial, ?_⟩, rs, g8 (.refl _), trivial, ?_⟩
  · rw [ek]; exact ⟨bd.1, bd.2.1, bd.2.2.1, bd.2.2.2, ab⟩
  · rw [ek]; exact ⟨bd.1, bd.2.1, bd.2.2.1, bd.2.2.2, ab⟩
  · rw [ek]; exact ⟨bd.1, bd.2.1, bd.2.2.1, bd.2.2.2, ab⟩
  · rw [ek]; exact ⟨bd.1, bd.2.1, bd.2.2.1, bd.2.2.2, ⟨trivial, ab⟩, ba⟩
  · rw [ek]; exact ⟨bd.1, bd.2.1, bd.2.2.1, bd.2.2.2, ab⟩
  · rw [ek]; exact ⟨bd.1, bd.2.1, bd.2.2.1, bd.2.2.2, ⟨trivial, ab⟩, ba⟩

end Go.Proofs.Ytippdkokbhejmaa
