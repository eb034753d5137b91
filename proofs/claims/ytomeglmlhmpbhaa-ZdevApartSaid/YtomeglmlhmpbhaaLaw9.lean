/-
  ZdevZones, ZdevFull, ZdevNothing (chapter 9).
-/
import Derived.Test.YtomeglmlhmpbhaaDevL
import Derived.Test.YtomeglmlhmpbhaaBridge
namespace Go.Proofs.Ytomeglmlhmpbhaa
set_option linter.unusedVariables false
set_option linter.unusedSimpArgs false

theorem least_spec (h : Hp) : HCalls Try.prog fn_scarplaw9_least #[] h fun r h' => r = .agg #[.int .i64 (8 : Int), .int .i64 (96 : Int)] ∧ Ext h h' := by
  apply scarplaw9_least_vc
  unfold vcscarplaw9_least
  intro h1
  have e1 : Ext h h1 := alc_ext _ _ _
  have r1 : Row h1 h.size [.int .i64 (0 : Int), .int .i64 (0 : Int)] := Row.alc _ _ _
  refine r1.put (vs := [.int .i64 (8 : Int), .int .i64 (96 : Int)]) rfl (by simp [cellOk]) fun h3 r3 s3 o3 => r3.get2 ⟨rfl, ?_⟩
  exact ⟨by rw [s3]; exact e1.size, fun b hb => by rw [o3 b (by omega), e1.block b hb]⟩
theorem awake9_spec (h : Hp) : HCalls Try.prog fn_scarplaw9_awake #[] h (Yes h) := by
  apply scarplaw9_awake_vc
  unfold vcscarplaw9_awake
  refine (least_spec h).mono ?_
  rintro _ h1 ⟨rfl, e1⟩
  refine ⟨_, _, rfl, newL e1 8 96 (by omega) fun db h2 x2 _ e2 => .no rfl (.no rfl ?_)⟩
  refine blkApp x2 0 1 fun h3 x3 => ?_
  have ha : (Dv.new 8 96).append ((0 : Nat) : Int) (blockL 64 1) = _ := append_live (new_live 8 96) (by show 0 < 8; omega) (blockL_length _ _)
  have hz : (Dv.new 8 96).z 0 = ⟨[], 0⟩ := rfl
  rw [hz, if_neg (by show ¬ 96 ≤ 0; omega)] at ha
  have ha : (Dv.new 8 96).append (0 : Int) (blockL 64 1) = _ := ha
  rw [ha] at x3 ⊢
  obtain ⟨⟨F, x3⟩, e3⟩ := x3
  refine (Crash_spec x3 (s := Sl.nil) (t := Sl.nil) (picks := []) (torn := []) rfl (RdC.nil _ _) rfl (RdC.nil _ _)).mono ?_
  rintro _ h4 ⟨e4, F', b, rfl, x4⟩
  refine ⟨_, rfl, .no rfl (.no rfl (.no rfl ?_))⟩
  refine (Pointer_spec x4 0).mono ?_
  rintro _ h5 ⟨rfl, ⟨hn, rfl⟩ | ⟨k, hk1, hk2, rfl⟩⟩
  · exfalso; apply hn; exact ⟨by omega, by show (0 : Int) < 8; omega⟩
  · obtain rfl : k = 0 := by omega
    refine ⟨_, _, rfl, .yes rfl ⟨?_, e3.trans e4⟩⟩
    rw [Dv.crash_z _ _ _ (by show 0 < 8; omega)]
    rfl
theorem aw9 {h h1 : Hp} (e : Ext h h1) : HCalls Try.prog fn_scarplaw9_awake #[] h1 fun r vh => ∃ c1 : Bool, r = .bool c1 ∧ Yes h (.bool c1) vh :=
  (awake9_spec h1).mono (by rintro _ h2 ⟨rfl, e2⟩; exact ⟨_, rfl, rfl, e.trans e2⟩)
/-- reading a number that came in. -/
theorem InI.ix {h h0 : Hp} {s : Sl} {l : List Int} (w : InI .i64 h0 s l) (e : Ext h0 h) (j : Nat) (hj : j < l.length) {K : Int → Prop} (hK : K l[j]) :
    ∃ a : Addr, s.base = some a ∧ 0 ≤ (j : Int) ∧ (j : Int) < (s.len : Int) ∧ ∃ c : Int, hcell h (a.add ((j : Int).toNat * 1)) = some (.int .i64 c) ∧ K c :=
  ix1 (w.rd.ext e) (by simpa using w.len) j rfl (by simpa using hj) fun a _ hc => ⟨_, by simpa using hc, hK⟩

theorem ZdevZones_law {h : Hp} (s : Sl) (l : List Int) (w : InI .i64 h s l) (zone : Int) (_ : (Lit.int .i64 zone).wf = true) : HCalls Try.prog fn_scarplaw9_ZdevZones #[.slice s.base s.len s.cap, .int .i64 zone] h (Yes h) := by
  apply scarplaw9_ZdevZones_vc
  unfold vcscarplaw9_ZdevZones
  have hl := w.len
  refine IfB.dec (fun _ => aw9 (.refl _)) (fun h200 => ?_)
  refine (least_spec h).mono ?_
  rintro _ h1 ⟨rfl, e1⟩
  refine ⟨_, _, rfl, newL e1 8 96 (by omega) fun db h2 x2 _ _ => .no rfl (.no rfl ?_)⟩
  refine (Round_spec zone 8 (by omega) (by omega) h2).mono ?_
  rintro _ h3 ⟨rfl, rfl⟩
  obtain ⟨zn, hz, hz8⟩ : ∃ k : Nat, zone % 8 = k ∧ k < 8 := ⟨(zone % 8).toNat, by omega, by omega⟩
  rw [hz]
  refine ⟨_, rfl, ?_⟩
  refine ⟨fun n i m h' => ∃ (j : Nat) (d : Dv), i = j ∧ m + j = l.length ∧ DevL h h' db d ∧ Live d ∧ d.n = 8 ∧ d.size = 96 ∧ d.ops = j ∧ n = ((d.z zn).rows.length : Int), l.length, ⟨0, _, rfl, rfl, x2, new_live 8 96, rfl, rfl, rfl, by rw [Dv.new_z]; rfl⟩, ?_⟩
  rintro _ _ _ m h4 ⟨j, d, rfl, hm, x, lv, hn, hs, ho, rfl⟩
  refine IfB.dec (fun hlt => ?_) (fun hge => ?_)
  · have hj : j < l.length := by omega
    refine w.ix x.2 j hj ?_
    refine (Round_spec l[j] 8 (by omega) (by omega) h4).mono ?_
    rintro _ h5 ⟨rfl, rfl⟩
    obtain ⟨z, hzz, hzz8⟩ : ∃ k : Nat, l[j] % 8 = k ∧ k < 8 := ⟨(l[j] % 8).toNat, by omega, by omega⟩
    rw [hzz]
    refine ⟨_, rfl, ?_⟩
    have wf := x.wf
    have hzl : z < d.zs.length := by have := wf.n; omega
    have hznl : zn < d.zs.length := by have := wf.n; omega
    have ops1 : iAdd .i64 d.ops 1 = ((j + 1 : Nat) : Int) := by rw [ho, iAdd64 (by omega)]; push_cast; rfl
    refine ⟨fun n f h' => ∃ d' : Dv, DevL h h' db d' ∧ Live d' ∧ d'.n = 8 ∧ d'.size = 96 ∧ d'.ops = ((j + 1 : Nat) : Int) ∧ n = ((d'.z zn).rows.length : Int) ∧ (f = 0 ∨ f = 9), ?_, ?_⟩
    · refine w.ix x.2 j hj ⟨by omega, ?_⟩
      refine (Round_spec _ 7 (by omega) (by omega) h5).mono ?_
      rintro _ h6 ⟨rfl, rfl⟩
      refine ⟨_, rfl, ?_⟩
      refine IfB.eq (fun _ => ?_) (fun _ => ?_)
      · refine resetL x z fun h7 x7 => ?_
        rw [reset_live lv (by omega)] at x7 ⊢
        have hzset : ∀ j', (d.tick.setZ z ⟨[], 0⟩).z j' = if j' = z then ⟨[], 0⟩ else d.z j' := fun j' => d.tick.z_set hzl _
        refine IfB.eq (fun he => ⟨_, x7, lv.tick.setZ _ _, hn, hs, ops1, ?_, .inl rfl⟩) (fun he => ⟨_, x7, lv.tick.setZ _ _, hn, hs, ops1, ?_, .inl rfl⟩)
        · rw [hzset, if_pos (by omega)]; rfl
        · rw [hzset, if_neg (by omega)]
      · refine blkApp x z z fun h7 x7 => ?_
        rw [append_live lv (by omega) (blockL_length _ _)] at x7 ⊢
        by_cases hfull : d.size ≤ (d.z z).rows.length
        · rw [if_pos hfull] at x7 ⊢
          have fin : ∃ d' : Dv, DevL h h7 db d' ∧ Live d' ∧ d'.n = 8 ∧ d'.size = 96 ∧ d'.ops = ((j + 1 : Nat) : Int) ∧ (((d.z zn).rows.length : Nat) : Int) = ((d'.z zn).rows.length : Int) ∧ ((9 : Int) = 0 ∨ (9 : Int) = 9) := ⟨_, x7, lv.tick, hn, hs, ops1, rfl, .inr rfl⟩
          exact IfB.eq (fun _ => .no rfl fin) (fun _ => fin)
        · rw [if_neg hfull] at x7 ⊢
          have hzset : ∀ j', (d.tick.setZ z ⟨(d.z z).rows ++ [blockL 64 z], (d.z z).good⟩).z j' = if j' = z then ⟨(d.z z).rows ++ [blockL 64 z], (d.z z).good⟩ else d.z j' := fun j' => d.tick.z_set hzl _
          refine IfB.eq (fun he => .yes rfl ⟨_, x7, lv.tick.setZ _ _, hn, hs, ops1, ?_, .inl rfl⟩) (fun he => ⟨_, x7, lv.tick.setZ _ _, hn, hs, ops1, ?_, .inl rfl⟩)
          · obtain rfl : z = zn := by omega
            rw [hzset, if_pos rfl, iAdd64 (by omega)]; simp
          · rw [hzset, if_neg (by omega)]
    · rintro _ _ f h7 ⟨d', x7, lv7, hn7, hs7, ho7, rfl, hf⟩
      have fin : HCalls Try.prog fn_zdev_Dev_Pointer #[.pointer (some ⟨db, 0, none⟩), .int .i64 (zn : Int)] h7 fun r vh => ∃ c : Int, ∃ c1 : Int, r = .tuple #[.int .i64 c, .int .i64 c1] ∧ IfB (c1 != (0 : Int)) (Yes h (.bool false) vh) (IfB (c != ((d'.z zn).rows.length : Int)) (Yes h (.bool false) vh) (∃ n2, n2 < m ∧ ∃ (j_1 : Nat) (d_1 : Dv), iAdd .i64 (j : Int) 1 = (j_1 : Int) ∧ n2 + j_1 = l.length ∧ DevL h vh db d_1 ∧ Live d_1 ∧ d_1.n = 8 ∧ d_1.size = 96 ∧ d_1.ops = (j_1 : Int) ∧ ((d'.z zn).rows.length : Int) = ((d_1.z zn).rows.length : Int))) :=
        ptrL x7 zn (by omega) (.no rfl (.no (by simp) ⟨m - 1, by omega, j + 1, d', by rw [iAdd64 (by omega)]; push_cast; rfl, by omega, x7, lv7, hn7, hs7, ho7, rfl⟩))
      rcases hf with rfl | rfl
      · exact .no rfl fin
      · exact .yes rfl (.no rfl fin)
  · obtain rfl : j = l.length := by omega
    exact opsL x (.yes (by rw [ho, hl]; simp) (aw9 x.2))

theorem ZdevFull_law {h : Hp} (size : Int) (_ : (Lit.int .i64 size).wf = true) (zone : Int) (_ : (Lit.int .i64 zone).wf = true) (turns : Int) (_ : (Lit.int .i64 turns).wf = true) : HCalls Try.prog fn_scarplaw9_ZdevFull #[.int .i64 size, .int .i64 zone, .int .i64 turns] h (Yes h) := by
  apply scarplaw9_ZdevFull_vc
  unfold vcscarplaw9_ZdevFull
  refine IfB.dec (fun _ => aw9 (.refl _)) (fun h1 => IfB.dec (fun _ => aw9 (.refl _)) (fun h2 => IfB.dec (fun _ => aw9 (.refl _)) (fun h3 => IfB.dec (fun _ => aw9 (.refl _)) (fun h4 => IfB.dec (fun _ => aw9 (.refl _)) (fun h5 => IfB.dec (fun _ => aw9 (.refl _)) (fun h6 => ?_))))))
  obtain ⟨sz, rfl⟩ : ∃ k : Nat, size = k := ⟨size.toNat, by omega⟩
  obtain ⟨zn, rfl⟩ : ∃ k : Nat, zone = k := ⟨zone.toNat, by omega⟩
  obtain ⟨tn, rfl⟩ : ∃ k : Nat, turns = k := ⟨turns.toNat, by omega⟩
  refine newL (.refl h) 8 sz (by omega) fun db h2 x2 _ _ => .no rfl (.no rfl ?_)
  refine ⟨fun i m h' => ∃ (j : Nat) (d : Dv), i = j ∧ m + j = tn ∧ DevL h h' db d ∧ Live d ∧ d.n = 8 ∧ d.size = sz ∧ d.ops = ((j * (sz + 2) : Nat) : Int) ∧ (d.z zn).rows = [], tn, ⟨0, _, rfl, rfl, x2, new_live 8 sz, rfl, rfl, by simp [Dv.new], by rw [Dv.new_z]⟩, ?_⟩
  rintro _ _ m h4 ⟨j, d, rfl, hm, x, lv, hn, hs, ho, hr⟩
  have hb : tn * (sz + 2) ≤ 4 * 194 := Nat.mul_le_mul (by omega) (by omega)
  refine IfB.dec (fun hlt => ?_) (fun hge => ?_)
  · have hj : (j + 1) * (sz + 2) ≤ tn * (sz + 2) := Nat.mul_le_mul_right _ (by omega)
    rw [Nat.add_mul, Nat.one_mul] at hj
    refine ⟨fun i q h' => ∃ (k : Nat) (d : Dv), i = k ∧ q + k = sz ∧ DevL h h' db d ∧ Live d ∧ d.n = 8 ∧ d.size = sz ∧ d.ops = ((j * (sz + 2) + k : Nat) : Int) ∧ (d.z zn).rows.length = k, sz, ⟨0, d, rfl, rfl, x, lv, hn, hs, by rw [ho]; rfl, by rw [hr]; rfl⟩, ?_⟩
    rintro _ _ q h5 ⟨k, d, rfl, hq, x, lv, hn, hs, ho, hr⟩
    have wf := x.wf
    have hznl : zn < d.zs.length := by have := wf.n; omega
    have ops1 : iAdd .i64 d.ops 1 = ((j * (sz + 2) + (k + 1) : Nat) : Int) := by rw [ho, iAdd64 (by omega)]; push_cast; omega
    refine IfB.dec (fun hlt2 => ?_) (fun hge2 => ?_)
    · refine blkApp x zn k fun h7 x7 => ?_
      rw [append_live lv (by omega) (blockL_length _ _), if_neg (by omega)] at x7 ⊢
      refine .no rfl (.no (by rw [hr]; simp) ⟨q - 1, by omega, k + 1, _, by rw [iAdd64 (by omega)]; push_cast; rfl, by omega, x7, lv.tick.setZ _ _, hn, hs, ops1, ?_⟩)
      rw [d.tick.z_set hznl, if_pos rfl]; simp [hr]
    · obtain rfl : k = sz := by omega
      refine blkApp x zn 1 fun h7 x7 => ?_
      rw [append_live lv (by omega) (blockL_length _ _), if_pos (by omega)] at x7 ⊢
      have lv7 := lv.tick
      obtain ⟨⟨F7, y7⟩, e7⟩ := x7
      refine (Read_spec y7 zn k).mono ?_
      rintro _ h8 ⟨s, rfl, _, _, y8, c8⟩
      have hrd : d.tick.read (zn : Int) (k : Int) = (([], 14), d.tick) := by
        unfold Dv.read
        rw [if_neg (by have : d.tick.n = d.n := rfl; omega), if_pos (by rw [Int.toNat_natCast, Dv.tick_z]; omega)]
      rw [hrd] at y8 ⊢
      have x8 : DevL h h8 db d.tick := ⟨⟨F7, y8⟩, c8.ext e7 fun b hb => y7.F0 hb⟩
      refine ⟨s, _, rfl, .no rfl (.no rfl ?_)⟩
      refine resetL x8 zn fun h9 x9 => ?_
      rw [reset_live lv7 (by have : d.tick.n = d.n := rfl; omega)] at x9 ⊢
      refine .no rfl (ptrL x9 zn (by show zn < d.n; omega) (.no rfl ?_))
      have hz9 : (d.tick.tick.setZ zn ⟨[], 0⟩).z zn = ⟨[], 0⟩ := by rw [d.tick.tick.z_set hznl, if_pos rfl]
      refine .no (by rw [hz9]; rfl) ⟨m - 1, by omega, j + 1, _, by rw [iAdd64 (by omega)]; push_cast; rfl, by omega, x9, lv7.tick.setZ _ _, hn, hs, ?_, by rw [hz9]⟩
      show iAdd .i64 (iAdd .i64 d.ops 1) 1 = _
      rw [ops1, iAdd64 (by omega), Nat.add_mul]; push_cast; omega
  · obtain rfl : j = tn := by omega
    refine opsL x (.yes ?_ (aw9 x.2))
    rw [ho, iAdd64 (by omega), show ((sz : Int) + 2) = ((sz + 2 : Nat) : Int) by push_cast; rfl, iMul64 (by rw [← Int.natCast_mul]; omega), ← Int.natCast_mul]
    simp

theorem at_none (i : Int) (h : Hp) : HCalls Try.prog fn_zdev_Dev_at #[.pointer none, .int .i64 i] h fun r h' => r = .pointer none ∧ h' = h := by
  apply zdev_Dev_at_vc
  unfold vczdev_Dev_at
  refine (gone_none h).mono ?_
  rintro _ _ ⟨rfl, rfl⟩
  exact ⟨_, rfl, .tt ⟨rfl, rfl⟩⟩
theorem ZdevNothing_law {h : Hp} (zone : Int) (_ : (Lit.int .i64 zone).wf = true) (vat : Int) (_ : (Lit.int .i64 vat).wf = true) : HCalls Try.prog fn_scarplaw9_ZdevNothing #[.int .i64 zone, .int .i64 vat] h (Yes h) := by
  apply scarplaw9_ZdevNothing_vc
  unfold vcscarplaw9_ZdevNothing
  refine (Block_spec 64 1 (by omega) h).mono ?_
  rintro _ h1 ⟨u, rfl, ou, lu, e1⟩
  refine ⟨u, rfl, ?_⟩
  have app : HCalls Try.prog fn_zdev_Dev_Append #[.pointer none, .int .i64 zone, .slice u.base u.len u.cap] h1 fun r h' => r = .tuple #[.int .i64 0, .int .i64 1] ∧ h' = h1 := by
    apply zdev_Dev_Append_vc
    unfold vczdev_Dev_Append
    refine (at_none _ _).mono ?_
    rintro _ _ ⟨rfl, rfl⟩
    exact ⟨_, rfl, .yes rfl ⟨rfl, rfl⟩⟩
  refine app.mono ?_
  rintro _ h1 ⟨rfl, rfl⟩
  refine ⟨_, _, rfl, ?_⟩
  have rd : HCalls Try.prog fn_zdev_Dev_Read #[.pointer none, .int .i64 zone, .int .i64 vat] h1 fun r h' => r = .tuple #[.slice Sl.nil.base Sl.nil.len Sl.nil.cap, .int .i64 1] ∧ h' = h1 := by
    apply zdev_Dev_Read_vc
    unfold vczdev_Dev_Read
    refine (at_none _ _).mono ?_
    rintro _ _ ⟨rfl, rfl⟩
    exact ⟨_, rfl, .yes rfl ⟨rfl, rfl⟩⟩
  refine rd.mono ?_
  rintro _ h1 ⟨rfl, rfl⟩
  refine ⟨Sl.nil, _, rfl, ?_⟩
  have pt : HCalls Try.prog fn_zdev_Dev_Pointer #[.pointer none, .int .i64 zone] h1 fun r h' => r = .tuple #[.int .i64 0, .int .i64 1] ∧ h' = h1 := by
    apply zdev_Dev_Pointer_vc
    unfold vczdev_Dev_Pointer
    refine (at_none _ _).mono ?_
    rintro _ _ ⟨rfl, rfl⟩
    exact ⟨_, rfl, .yes rfl ⟨rfl, rfl⟩⟩
  refine pt.mono ?_
  rintro _ h1 ⟨rfl, rfl⟩
  refine ⟨_, _, rfl, .yes rfl (.yes rfl (.yes rfl ?_))⟩
  have rs : HCalls Try.prog fn_zdev_Dev_Reset #[.pointer none, .int .i64 zone] h1 fun r h' => r = .int .i64 1 ∧ h' = h1 := by
    apply zdev_Dev_Reset_vc
    unfold vczdev_Dev_Reset
    refine (at_none _ _).mono ?_
    rintro _ _ ⟨rfl, rfl⟩
    exact ⟨_, rfl, .yes rfl ⟨rfl, rfl⟩⟩
  refine rs.mono ?_
  rintro _ h1 ⟨rfl, rfl⟩
  refine ⟨_, rfl, .yes rfl ?_⟩
  have off : HCalls Try.prog fn_zdev_Dev_Off #[.pointer none] h1 fun r h' => r = .bool true ∧ h' = h1 := by
    apply zdev_Dev_Off_vc
    unfold vczdev_Dev_Off
    refine (gone_none _).mono ?_
    rintro _ _ ⟨rfl, rfl⟩
    exact ⟨_, rfl, .tt ⟨rfl, rfl⟩⟩
  refine off.mono ?_
  rintro _ h1 ⟨rfl, rfl⟩
  refine ⟨_, rfl, .tt ?_⟩
  have ops : HCalls Try.prog fn_zdev_Dev_Ops #[.pointer none] h1 fun r h' => r = .int .i64 0 ∧ h' = h1 := by
    apply zdev_Dev_Ops_vc
    unfold vczdev_Dev_Ops
    refine (gone_none _).mono ?_
    rintro _ _ ⟨rfl, rfl⟩
    exact ⟨_, rfl, .tt ⟨rfl, rfl⟩⟩
  refine ops.mono ?_
  rintro _ h1 ⟨rfl, rfl⟩
  refine ⟨_, rfl, .yes rfl ?_⟩
  have cr : HCalls Try.prog fn_zdev_Dev_Crash #[.pointer none, .slice Sl.nil.base Sl.nil.len Sl.nil.cap, .slice Sl.nil.base Sl.nil.len Sl.nil.cap] h1 fun r h' => r = .pointer none ∧ h' = h1 := by
    apply zdev_Dev_Crash_vc
    unfold vczdev_Dev_Crash
    refine (gone_none _).mono ?_
    rintro _ _ ⟨rfl, rfl⟩
    exact ⟨_, rfl, .tt ⟨rfl, rfl⟩⟩
  refine cr.mono ?_
  rintro _ h1 ⟨rfl, rfl⟩
  refine ⟨_, rfl, .yes rfl ?_⟩
  have cp : HCalls Try.prog fn_zdev_Dev_Copy #[.pointer none] h1 fun r h' => r = .pointer none ∧ h' = h1 := by
    apply zdev_Dev_Copy_vc
    unfold vczdev_Dev_Copy
    refine (gone_none _).mono ?_
    rintro _ _ ⟨rfl, rfl⟩
    exact ⟨_, rfl, .tt ⟨rfl, rfl⟩⟩
  refine cp.mono ?_
  rintro _ h1 ⟨rfl, rfl⟩
  refine ⟨_, rfl, .yes rfl ?_⟩
  refine (Geometry_none h1).mono ?_
  rintro _ h2 ⟨rfl, e2⟩
  exact ⟨_, _, rfl, .yes rfl (aw9 (e1.trans e2))⟩

end Go.Proofs.Ytomeglmlhmpbhaa
