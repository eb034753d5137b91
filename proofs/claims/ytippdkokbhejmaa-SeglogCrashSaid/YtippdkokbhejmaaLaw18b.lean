/-
  awake of chapter 18; SeglogLimits.
-/
import Derived.Test.YtippdkokbhejmaaLaw18a
namespace Go.Proofs.Ytippdkokbhejmaa
set_option linter.unusedVariables false
set_option linter.unusedSimpArgs false

theorem new18 : (Dv.new 8 96).n = 8 ∧ (Dv.new 8 96).size = 96 := ⟨rfl, rfl⟩
def lgNew (low count : Nat) : LgV := ⟨low, count, 96, 0, 0, 0, 0, [], false⟩
theorem lgNew_inv {low count : Nat} (h : low + 2 * count ≤ 8) (hc : 1 ≤ count) : LgInv (Dv.new 8 96) (lgNew low count) := LgInv.new (by omega) (by omega) h hc
/-- a log upon the least device, empty. -/
theorem newLg {h0 h : Hp} {F : Nat → Nat} {db : Nat} (x : DevAt h0.size F h db (Dv.new 8 96)) (e0 : Ext h0 h) {low high : Nat} (hlt : low < high) (hh : high < 8) {K : Option Addr → Int → Hp → Prop}
    (hK : ∀ F' h' lb rs rr d' S', LgF h0 h' F' db lb d' S' rs rr → Live d' → LgTo (lgNew low ((high - low + 1) / 2)) S' 0 [] → S'.epoch = 0 → (∀ j, (j < low ∨ low + 2 * ((high - low + 1) / 2) ≤ j) → (d'.z j).rows = []) → Chg F h h' → (∀ b, b < h.size → F' b = F b) → h.size ≤ lb → RowsIn (fun b => h.size ≤ b) rs rr → K (some ⟨lb, 0, none⟩) 0 h') :
    HCalls Try.prog fn_seglog_Open #[dp db, .int .i64 (low : Int), .int .i64 (high : Int)] h fun r vh => ∃ c : Option Addr, ∃ c1 : Int, r = .tuple #[.pointer c, .int .i64 c1] ∧ K c c1 vh := by
  have hinv := lgNew_inv (low := low) (count := (high - low + 1) / 2) (by omega) (by omega)
  refine openLg x e0 rfl rfl (new_live 8 96) hinv.pre (low := low) (high := high) rfl rfl hlt hh fun F' h' lb rs rr d' S' p l to he ho c g hb ri => ?_
  exact hK F' h' lb rs rr d' S' p l to he (fun j hj => by rw [ho j hj, Dv.new_z]) c g hb ri
theorem awake18_spec (h : Hp) : HCalls Try.prog fn_scarplaw18_awake #[] h (Yes h) := by
  apply scarplaw18_awake_vc
  unfold vcscarplaw18_awake
  refine (dev18_spec h).mono ?_
  rintro _ h1 ⟨_, _, rfl, F, db, rfl, rfl, x, e1⟩
  refine ⟨_, _, rfl, .no rfl ?_⟩
  refine newLg x e1 (low := 2) (high := 5) (by omega) (by omega) fun F2 h2 lb rs rr d2 S2 p2 l2 to2 he2 _ _ _ hlb _ => ?_
  refine .no rfl (.no rfl ?_)
  intro h3
  refine ⟨_, rfl, ?_⟩
  intro h4
  obtain ⟨e4, s4, r4⟩ : Ext h2 h4 ∧ h4.size = h2.size + 1 ∧ RdC h4 (some (nw h2)) ([97].map bv) := strFacts h2 [97] ty_uint8
  intro h5
  refine ⟨_, rfl, ?_⟩
  intro h6
  obtain ⟨e6, s6, r6⟩ : Ext h4 h6 ∧ h6.size = h4.size + 1 ∧ RdC h6 (some (nw h4)) ([98].map bv) := strFacts h4 [98] ty_uint8
  intro h7
  have e7 : Ext h6 h7 := alc_ext _ _ _
  have s7 : h7.size = h6.size + 1 := size_alc _ _ _
  have r7 : RdC h7 (some (nw h6)) [slV (Sl.mk (some (nw h2)) 1 1), slV (Sl.mk (some (nw h4)) 1 1)] := RdC.alc h6 _ _
  have e27 := (e4.trans e6).trans e7
  have hfirst : S2.first = 0 := to2.first
  have hrecs : S2.recs = [] := to2.recs
  let R : List (Sl × List UInt8) := [(Sl.mk (some (nw h2)) 1 1, [97]), (Sl.mk (some (nw h4)) 1 1, [98])]
  have hR : RowsR h7 (Sl.mk (some (nw h6)) 2 2) R := ⟨⟨rfl, Nat.le_refl _, r7⟩, fun p hp => by
    simp only [R, List.mem_cons, List.not_mem_nil, or_false] at hp
    rcases hp with rfl | rfl
    · exact ⟨rfl, Nat.le_refl _, (r4.ext e6).ext e7⟩
    · exact ⟨rfl, Nat.le_refl _, r6.ext e7⟩⟩
  have hlb2 := p2.la.row.lt
  have Fz : ∀ b, h2.size ≤ b → F2 b = 0 := fun b hb => p2.dev.free hb
  have hRi : RowsIn (fun b => F2 b = 0 ∧ b < h7.size ∧ b ≠ lb) (Sl.mk (some (nw h6)) 2 2) R := ⟨fun a ha => by
    cases ha
    exact ⟨Fz h6.size (by omega), by show h6.size < _; omega, by show h6.size ≠ _; omega⟩, fun p hp a ha => by
    simp only [R, List.mem_cons, List.not_mem_nil, or_false] at hp
    rcases hp with rfl | rfl
    · cases ha; exact ⟨Fz h2.size (by omega), by show h2.size < _; omega, by show h2.size ≠ _; omega⟩
    · cases ha; exact ⟨Fz h4.size (by omega), by show h4.size < _; omega, by show h4.size ≠ _; omega⟩⟩
  have hcount : S2.count = 2 := to2.count
  have hsize : S2.size = 96 := to2.size
  refine appendLg (p2.app e27) l2 (R := R) ⟨by omega, by rw [hfirst, hrecs]; simp [R]⟩ hR hRi (by simp [R]) (by simp [R]) (fun p hp => ?_) (fun F8 h8 rs8 rr8 d8 S8 p8 l8 to8 _ fr8 _ => ?_) (fun F8 h8 rs8 rr8 p8 fr8 _ hno => ?_)
  · simp only [R, List.mem_cons, List.not_mem_nil, or_false] at hp
    rcases hp with rfl | rfl <;> simp
  · have hr8 : S8.recs = [[97], [98]] := by rw [to8.recs, hrecs]; rfl
    have hf8 : S8.first = 0 := by rw [to8.first, hfirst]
    have he8 := to8.epoch
    refine .no rfl (.no (by rw [hfirst, hrecs]; rfl) ?_)
    refine trimLg p8 l8 ⟨by omega, by rw [hf8, hr8]; simp⟩ (k := 1) (by omega) (by rw [hf8, hr8]; simp) fun F9 h9 rs9 rr9 d9 S9 p9 l9 to9 _ fr9 _ => ?_
    refine .no rfl ?_
    have hf9 : S9.first = 1 := to9.first
    have hr9 : S9.recs = [[98]] := by rw [to9.recs, hf8, hr8]; rfl
    refine (LogRead_spec p9.la (by rw [hf9, hr9]; simp) p9.inv.pre.recs40 1).mono ?_
    rintro _ h10 ⟨e10, t, e, rfl, ⟨hno, _⟩ | ⟨j, hj, hjk, rfl, ot⟩⟩
    · exact absurd ⟨by omega, by rw [hf9, hr9]; decide⟩ hno
    have hj0 : j = 0 := by omega
    subst hj0
    have hval : S9.recs[0] = [98] := by simp [hr9]
    rw [hval] at ot
    refine ⟨t, _, rfl, .yes rfl ⟨[98], ot.toRd.lenB, ot.rd, .yes (beq_iff_eq.2 rfl) ?_⟩⟩
    refine (First_spec (p9.la.ext e10).row).mono ?_
    rintro _ h11 ⟨rfl, hh⟩
    obtain rfl := hh.symm
    refine ⟨_, rfl, ?_, p9.ext.trans e10⟩
    rw [hf9]; rfl
  · exfalso
    rw [hcount, hsize, hrecs] at hno
    simp [R] at hno
theorem aw18 {h h1 : Hp} (e : Ext h h1) : HCalls Try.prog fn_scarplaw18_awake #[] h1 fun r vh => ∃ c1 : Bool, r = .bool c1 ∧ Yes h (.bool c1) vh :=
  (awake18_spec h1).mono fun _ _ ⟨h1, h2⟩ => ⟨true, h1, rfl, e.trans h2⟩

/-! ### Limits -/
theorem openBad18 {lo : Nat} {F : Nat → Nat} {h : Hp} {db : Nat} (x : DevAt lo F h db (Dv.new 8 96)) (low high : Int) (hbad : low < 0 ∨ high ≤ low ∨ 8 ≤ high) : HCalls Try.prog fn_seglog_Open #[dp db, .int .i64 low, .int .i64 high] h fun r h' => r = .tuple #[.pointer none, .int .i64 1] ∧ Ext h h' := by
  apply seglog_Open_vc
  unfold vcseglog_Open
  refine (Geometry_spec x).mono ?_
  rintro _ h1 ⟨rfl, e1⟩
  refine ⟨_, _, rfl, ?_⟩
  intro h2
  refine loc2 rfl rfl fun h3 e3 r3 => ?_
  have e03 := e1.trans e3
  refine ⟨_, r3.get0 rfl, .no rfl (IfB.dec (fun _ => ⟨rfl, e03⟩) (fun h1 => IfB.dec (fun _ => ⟨rfl, e03⟩) (fun h2 => ⟨_, r3.get0 rfl, .yes ?_ ⟨rfl, e03⟩⟩)))⟩
  rw [decide_eq_true_eq]
  show high ≥ ((8 : Nat) : Int)
  omega
theorem openNone18 (h : Hp) (a b : Int) : HCalls Try.prog fn_seglog_Open #[.pointer none, .int .i64 a, .int .i64 b] h fun r h' => r = .tuple #[.pointer none, .int .i64 1] ∧ Ext h h' := by
  apply seglog_Open_vc
  unfold vcseglog_Open
  refine (Geometry_none h).mono ?_
  rintro _ h1 ⟨rfl, e1⟩
  refine ⟨_, _, rfl, ?_⟩
  intro h2
  refine loc2 rfl rfl fun h3 e3 r3 => ?_
  exact ⟨_, r3.get0 rfl, .yes rfl ⟨rfl, e1.trans e3⟩⟩
theorem logDeadNone (h : Hp) : HCalls Try.prog fn_seglog_Log_Dead #[.pointer none] h fun r h' => r = .bool true ∧ h' = h := by
  apply seglog_Log_Dead_vc
  unfold vcseglog_Log_Dead
  exact .yes rfl ⟨rfl, rfl⟩
theorem logLenNone (h : Hp) : HCalls Try.prog fn_seglog_Log_Len #[.pointer none] h fun r h' => r = .int .i64 0 ∧ h' = h := by
  apply seglog_Log_Len_vc
  unfold vcseglog_Log_Len
  exact .yes rfl ⟨rfl, rfl⟩
theorem logFirstNone (h : Hp) : HCalls Try.prog fn_seglog_Log_First #[.pointer none] h fun r h' => r = .int .i64 0 ∧ h' = h := by
  apply seglog_Log_First_vc
  unfold vcseglog_Log_First
  exact .yes rfl ⟨rfl, rfl⟩
theorem logReadNone (h : Hp) : HCalls Try.prog fn_seglog_Log_Read #[.pointer none, .int .i64 0] h fun r h' => r = .tuple #[.slice Sl.nil.base Sl.nil.len Sl.nil.cap, .int .i64 14] ∧ h' = h := by
  apply seglog_Log_Read_vc
  unfold vcseglog_Log_Read
  refine (logFirstNone h).mono ?_
  rintro _ _ ⟨rfl, rfl⟩
  refine ⟨_, rfl, .no rfl ?_⟩
  refine (logLenNone _).mono ?_
  rintro _ _ ⟨rfl, rfl⟩
  exact ⟨_, rfl, .yes rfl ⟨rfl, rfl⟩⟩
theorem logAppendNone {h : Hp} {s : Sl} {R : List (Sl × List UInt8)} (r : RowsR h s R) (h1 : 1 ≤ R.length) (h2 : R.length ≤ 40) (h40 : ∀ p ∈ R, p.2.length ≤ 40) :
    HCalls Try.prog fn_seglog_Log_Append #[.pointer none, .slice s.base s.len s.cap] h fun w h' => w = .tuple #[.int .i64 0, .int .i64 12] ∧ h' = h := by
  apply seglog_Log_Append_vc
  unfold vcseglog_Log_Append
  have hl := r.len
  refine .no (by simp; omega) (.no (by simp; omega) ?_)
  refine (rowsContains_spec (f := fn_seglog_Log_Append_1) (p := fun l => decide (40 < l.length)) r.rd.rd hl r.each (by omega) fun x hx c rc => over40_spec rc).mono ?_
  rintro _ h1' ⟨rfl, hh⟩
  obtain rfl := hh.symm
  have hno : (R.any fun x => decide (40 < x.2.length)) = false := by
    rw [List.any_eq_false]
    intro p hp
    have := h40 p hp
    simp; omega
  refine ⟨_, rfl, .no hno ?_⟩
  refine (logDeadNone h).mono ?_
  rintro _ h1' ⟨rfl, hh⟩
  obtain rfl := hh.symm
  exact ⟨_, rfl, .yes rfl ⟨rfl, rfl⟩⟩
theorem SeglogLimits_law {h : Hp} (n : Int) (_ : (Lit.int .i64 n).wf = true) (size : Int) (_ : (Lit.int .i64 size).wf = true) (low : Int) (_ : (Lit.int .i64 low).wf = true) (high : Int) (_ : (Lit.int .i64 high).wf = true) :
    HCalls Try.prog fn_scarplaw18_SeglogLimits #[.int .i64 n, .int .i64 size, .int .i64 low, .int .i64 high] h (Yes h) := by
  apply scarplaw18_SeglogLimits_vc
  unfold vcscarplaw18_SeglogLimits
  refine IfB.dec (fun _ => aw18 (.refl h)) (fun a1 => IfB.dec (fun _ => aw18 (.refl h)) (fun a2 => IfB.dec (fun _ => aw18 (.refl h)) (fun a3 => IfB.dec (fun _ => aw18 (.refl h)) (fun a4 => ?_))))
  obtain ⟨N, rfl⟩ : ∃ N : Nat, n = N := ⟨n.toNat, by omega⟩
  obtain ⟨Z, rfl⟩ : ∃ Z : Nat, size = Z := ⟨size.toNat, by omega⟩
  refine (dev18_spec h).mono ?_
  rintro _ h1 ⟨_, _, rfl, F, db, rfl, rfl, x, e1⟩
  refine ⟨_, _, rfl, .no rfl ?_⟩
  by_cases hok : 0 ≤ low ∧ low < high ∧ high < 8
  · obtain ⟨L, rfl⟩ : ∃ L : Nat, low = L := ⟨low.toNat, by omega⟩
    obtain ⟨H, rfl⟩ : ∃ H : Nat, high = H := ⟨high.toNat, by omega⟩
    refine newLg x e1 (low := L) (high := H) (by omega) (by omega) fun F2 h2 lb rs rr d2 S2 p2 l2 to2 he2 _ _ _ hlb _ => ?_
    refine (openNone18 h2 _ _).mono ?_
    rintro _ h3 ⟨rfl, e3⟩
    refine ⟨_, _, rfl, .no rfl (.no (by simp) (.no (by simp; omega) (.no (by simp; omega) (.no rfl (.no rfl ?_)))))⟩
    refine (recs_spec 0 N Z (by omega) (by omega) (by omega) h3).mono ?_
    rintro _ h4 ⟨t, R, rfl, o4, hR, e4⟩
    refine ⟨t, rfl, ?_⟩
    have hRl : R.length = N := by
      have := congrArg List.length hR
      rw [List.length_map, recsL_length] at this; exact this
    have hRs : ∀ p ∈ R, p.2.length = Z := fun p hp => recsL_size 0 N Z _ (by rw [← hR]; exact List.mem_map.2 ⟨p, hp, rfl⟩)
    have p4 := p2.app (e3.trans e4)
    have hfirst : S2.first = 0 := to2.first
    have hrecs : S2.recs = [] := to2.recs
    have hcount : S2.count = (H - L + 1) / 2 := to2.count
    have hsize : S2.size = 96 := to2.size
    have hlb2 := p2.la.row.lt
    have s3 := e3.size
    -- what comes behind
    have rest : ∀ (w : Int) {h5 : Hp}, Ext h h5 →
        ∃ vJ : Int → Hp → Prop,
        (IfB ((N : Int) == (0 : Int)) (vJ (1 : Int) h5)
          (IfB (decide ((N : Int) > (40 : Int))) (vJ (7 : Int) h5)
            (IfB (decide ((Z : Int) > (40 : Int))) (vJ (7 : Int) h5)
              (vJ (0 : Int) h5)))) ∧
        ∀ (want : Int) (vh12 : Hp), vJ want vh12 → h5 = vh12 ∧ want = (if N = 0 then 1 else if 40 < N ∨ 40 < Z then 7 else 0) := by
      intro w h5 e5
      refine ⟨fun want h' => h5 = h' ∧ want = (if N = 0 then 1 else if 40 < N ∨ 40 < Z then 7 else 0), IfB.eq (fun h0 => ⟨rfl, by rw [if_pos (by omega)]⟩) (fun h0 => IfB.dec (fun h1 => ⟨rfl, by rw [if_neg (by omega), if_pos (by omega)]⟩) (fun h1 => IfB.dec (fun h2 => ⟨rfl, by rw [if_neg (by omega), if_pos (by omega)]⟩) (fun h2 => ⟨rfl, by rw [if_neg (by omega), if_neg (by omega)]⟩))), fun _ _ h => h⟩
    have tail : ∀ {h5 : Hp} {c15 : Int}, Ext h h5 → c15 = (if N = 0 then 1 else if 40 < N ∨ 40 < Z then 7 else 0) → ∀ (want : Int) (vh12 : Hp), h5 = vh12 ∧ want = (if N = 0 then 1 else if 40 < N ∨ 40 < Z then 7 else 0) →
        (let vh13 := alc vh12 [.int .u8 (120 : Int)] ty_uint8;
                        ∃ a : Addr, (Sl.mk (some (nw vh12)) 1 1).base = some a ∧
                        let vh14 := hstr vh13 a;
                        let vh15 := alc vh14 [.slice (Sl.mk (some (nw vh12)) 1 1).base (Sl.mk (some (nw vh12)) 1 1).len (Sl.mk (some (nw vh12)) 1 1).cap] ty_suint8;
                        HCalls Try.prog fn_seglog_Log_Append #[.pointer none, .slice (Sl.mk (some (nw vh14)) 1 1).base (Sl.mk (some (nw vh14)) 1 1).len (Sl.mk (some (nw vh14)) 1 1).cap] vh15 fun r12 vh16 =>
                        ∃ c16 : Int, ∃ c17 : Int, r12 = .tuple #[.int .i64 c16, .int .i64 c17] ∧
                        HCalls Try.prog fn_seglog_Log_Read #[.pointer none, .int .i64 (0 : Int)] vh16 fun r13 vh17 =>
                        ∃ c18 : Sl, ∃ c19 : Int, r13 = .tuple #[.slice c18.base c18.len c18.cap, .int .i64 c19] ∧
                        IfB (c15 == want) (IfB (c17 == (12 : Int)) (IfB (c19 == (14 : Int)) (HCalls Try.prog fn_seglog_Log_Dead #[.pointer none] vh17 fun r14 vh18 =>
                              ∃ c20 : Bool, r14 = .bool c20 ∧
                              IfB c20 (HCalls Try.prog fn_seglog_Log_Len #[.pointer none] vh18 fun r15 vh19 =>
                                ∃ c21 : Int, r15 = .int .i64 c21 ∧
                                IfB (c21 == (0 : Int)) (HCalls Try.prog fn_scarplaw18_awake #[] vh19 fun r16 vh20 =>
                                  ∃ c22 : Bool, r16 = .bool c22 ∧
                                  Yes h (.bool c22) vh20)
                                (Yes h (.bool false) vh19))
                              (Yes h (.bool false) vh18))
                            (Yes h (.bool false) vh17))
                          (Yes h (.bool false) vh17))
                        (Yes h (.bool false) vh17)) := by
      rintro h5 c15 e5 hc want _ ⟨rfl, hw⟩
      intro h13
      refine ⟨_, rfl, ?_⟩
      intro h14
      obtain ⟨e14, s14, r14⟩ : Ext h5 h14 ∧ h14.size = h5.size + 1 ∧ RdC h14 (some (nw h5)) ([120].map bv) := strFacts h5 [120] ty_uint8
      intro h15
      have e15 : Ext h14 h15 := alc_ext _ _ _
      have r15 : RdC h15 (some (nw h14)) [slV (Sl.mk (some (nw h5)) 1 1)] := RdC.alc h14 _ _
      refine (logAppendNone (s := Sl.mk (some (nw h14)) 1 1) (R := [(Sl.mk (some (nw h5)) 1 1, [120])]) ⟨⟨rfl, Nat.le_refl _, r15⟩, fun p hp => ?_⟩ (by simp) (by simp) (fun p hp => ?_)).mono ?_
      · simp only [List.mem_cons, List.not_mem_nil, or_false] at hp
        subst hp; exact ⟨rfl, Nat.le_refl _, r14.ext e15⟩
      · simp only [List.mem_cons, List.not_mem_nil, or_false] at hp
        subst hp; simp
      rintro _ h16 ⟨rfl, hh⟩
      obtain rfl := hh.symm
      refine ⟨_, _, rfl, ?_⟩
      refine (logReadNone h15).mono ?_
      rintro _ h16 ⟨rfl, hh⟩
      obtain rfl := hh.symm
      refine ⟨Sl.nil, _, rfl, .yes (by rw [hc, hw]; simp) (.yes rfl (.yes rfl ?_))⟩
      refine (logDeadNone h15).mono ?_
      rintro _ h16 ⟨rfl, hh⟩
      obtain rfl := hh.symm
      refine ⟨_, rfl, .tt ?_⟩
      refine (logLenNone h15).mono ?_
      rintro _ h16 ⟨rfl, hh⟩
      obtain rfl := hh.symm
      exact ⟨_, rfl, .yes rfl (aw18 ((e5.trans e14).trans e15))⟩
    by_cases hgood : 1 ≤ N ∧ N ≤ 40 ∧ Z ≤ 40
    · refine appendLg p4 l2 (R := R) ⟨by omega, by rw [hfirst, hrecs, hRl]; simp; omega⟩ o4.rowsR (o4.rowsIn.mono fun b hb => ⟨p2.dev.free (by omega), hb.2, by omega⟩) (by omega) (by omega) (fun p hp => by rw [hRs p hp]; omega) (fun F8 h8 rs8 rr8 d8 S8 p8 l8 to8 _ fr8 _ => ?_) (fun F8 h8 rs8 rr8 p8 fr8 _ hno => ?_)
      · obtain ⟨vJ, hj1, hj2⟩ := rest 0 p8.ext
        exact ⟨vJ, hj1, fun _ want vh12 hv => tail p8.ext (by rw [if_neg (by omega), if_neg (by omega)]) want vh12 (hj2 want vh12 hv)⟩
      · exfalso
        rw [hcount, hsize, hrecs, hRl] at hno
        simp only [List.length_nil] at hno
        omega
    · refine (logAppendBad_spec (some ⟨lb, 0, none⟩) o4.rowsR (by omega) ?_).mono ?_
      · by_cases h0 : N = 0
        · exact .inl (by omega)
        · by_cases h40 : 40 < N
          · exact .inr (.inl (by omega))
          · have hpos : 0 < R.length := by omega
            exact .inr (.inr ⟨R[0], List.getElem_mem hpos, by rw [hRs _ (List.getElem_mem hpos)]; omega⟩)
      · rintro _ h5 ⟨rfl, hh⟩
        obtain rfl := hh.symm
        obtain ⟨vJ, hj1, hj2⟩ := rest 0 p4.ext
        refine ⟨_, _, rfl, vJ, hj1, fun _ want vh12 hv => tail p4.ext ?_ want vh12 (hj2 want vh12 hv)⟩
        rw [hRl]
        by_cases h0 : N = 0
        · rw [if_pos h0, if_pos h0]
        · rw [if_neg h0, if_neg h0, if_pos (by omega)]
  · refine (openBad18 x low high (by omega)).mono ?_
    rintro _ h2 ⟨rfl, e2⟩
    refine ⟨_, _, rfl, ?_⟩
    refine (openNone18 h2 _ _).mono ?_
    rintro _ h3 ⟨rfl, e3⟩
    have e03 := (e1.trans e2).trans e3
    exact ⟨_, _, rfl, .no rfl (IfB.dec (fun _ => .yes rfl (.yes rfl (aw18 e03))) (fun b1 => IfB.dec (fun _ => .yes rfl (.yes rfl (aw18 e03))) (fun b2 => IfB.dec (fun _ => .yes rfl (.yes rfl (aw18 e03))) (fun b3 => absurd ⟨by omega, by omega, by omega⟩ hok))))⟩

end Go.Proofs.Ytippdkokbhejmaa
