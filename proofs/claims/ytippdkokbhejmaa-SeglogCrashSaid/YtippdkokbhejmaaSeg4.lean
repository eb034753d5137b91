/-
  seglog: group, write, turn, put.
-/
import Derived.Test.YtippdkokbhejmaaSeg3
namespace Go.Proofs.Ytippdkokbhejmaa
set_option linter.unusedVariables false
set_option linter.unusedSimpArgs false

theorem datL_snoc (e f : Nat) (R : List (List UInt8)) {k : Nat} (hk : k < R.length) : datL e f (R.take (k + 1)) = datL e f (R.take k) ++ [datB e (f + k) R[k]] := by
  rw [List.take_succ_eq_append_getElem hk, datL_append]
  have : (R.take k).length = k := by rw [List.length_take]; omega
  rw [this]; rfl
/-- an encoded block. -/
theorem enc_spec {h : Hp} {u : Sl} {bs : List UInt8} (ru : Rd 1 h u (bs.map bv)) {k e s l : Nat} (hk : 1 ≤ k ∧ k ≤ 4) (he : e ≤ 4294967295) (hs : s ≤ 1099511627776) (hl : l ≤ 1048576) (hb : bs.length ≤ 40) :
    HCalls Try.prog fn_frame_Encode #[.agg #[.int .i64 (k : Int), .int .i64 (e : Int), .int .i64 (s : Int), .int .i64 (l : Int), .slice u.base u.len u.cap]] h fun r h' => ∃ t : Sl, r = .tuple #[.slice t.base t.len t.cap, .int .i64 0] ∧ Own h.size 1 h' t ((encOf (preL k e s l bs)).map bv) ∧ Ext h h' := by
  refine (Encode_spec (k : Int) (e : Int) (s : Int) (l : Int) ru).mono ?_
  rintro _ h1 ⟨e1, ⟨hno, _⟩ | ⟨_, hno, _⟩ | ⟨_, _, t, rfl, ot, _⟩⟩
  · exact absurd ⟨⟨by omega, by omega⟩, ⟨by omega, by omega⟩, ⟨by omega, by omega⟩, by omega, by omega⟩ hno
  · omega
  · rw [Int.toNat_natCast, Int.toNat_natCast, Int.toNat_natCast, Int.toNat_natCast] at ot
    exact ⟨t, rfl, ot, e1⟩
theorem group_spec {h : Hp} {s : Sl} {rr : List (Sl × List UInt8)} (r : RowsR h s rr) {e f : Nat} (g : GrpOk e f (rr.map (·.2))) :
    HCalls Try.prog fn_seglog_group #[.int .i64 (e : Int), .int .i64 (f : Int), .slice s.base s.len s.cap] h fun v h' => ∃ (t : Sl) (rows : List (Sl × List UInt8)), v = .slice t.base t.len t.cap ∧ OwnRows h.size h' t rows ∧ rows.map (·.2) = grpL e f (rr.map (·.2)) ∧ Ext h h' := by
  apply seglog_group_vc
  unfold vcseglog_group
  have hl := r.len
  have hgf := g.f
  rw [List.length_map] at hgf
  have hge := g.e
  refine ⟨fun out i m h' => ∃ (k : Nat) (rows : List (Sl × List UInt8)), i = k ∧ m + k = rr.length ∧ Ext h h' ∧ OwnRows h.size h' out rows ∧ rows.map (·.2) = datL e f ((rr.map (·.2)).take k) ∧ rows.length = k, rr.length, ⟨0, [], rfl, rfl, .refl h, OwnRows.nil _ _, rfl, rfl⟩, ?_⟩
  rintro _ out _ m h1 ⟨k, rows, rfl, hm, e1, o1, hrows, hrl⟩
  have s1 := e1.size
  refine IfB.dec (fun hlt => ?_) (fun hge' => ?_)
  · have hk : k < rr.length := by omega
    have hmem : rr[k] ∈ rr := List.getElem_mem hk
    refine ixS (r.rd.ext e1).rd hl k rfl hk ?_
    have ea : iAdd .i64 (f : Int) (k : Int) = ((f + k : Nat) : Int) := by rw [iAdd64 (by omega)]; push_cast; rfl
    rw [ea]
    refine (enc_spec ((r.each _ hmem).ext e1) (k := 1) (e := e) (s := f + k) (l := 0) (by omega) hge (by omega) (by omega) (g.r _ (List.mem_map.2 ⟨_, hmem, rfl⟩))).mono ?_
    rintro _ h2 ⟨t, rfl, ot, e2⟩
    refine ⟨t, _, rfl, ?_⟩
    intro h3
    refine OwnRows.push rfl o1 s1 e2 ot (by omega) (fun q h4 o4 l4 k4 _ _ => ?_) (by omega)
    refine ⟨m - 1, by omega, k + 1, _, by rw [iAdd64 (by omega)]; push_cast; rfl, by omega, (e1.toKeep.trans k4).ext, o4, ?_, by simp [hrl]⟩
    rw [List.map_append, hrows, datL_snoc e f _ (by simpa using hk)]
    simp [datB]
  · obtain rfl : k = rr.length := by omega
    have hall : (rr.map (·.2)).take rr.length = rr.map (·.2) := List.take_of_length_le (by simp)
    rw [hall] at hrows
    refine (seglogSum_spec (r.ext e1) (fun p hp => by have := g.r _ (List.mem_map.2 ⟨p, hp, rfl⟩); omega) (by omega)).mono ?_
    rintro _ h2 ⟨u, rfl, ou, lu, e2⟩
    refine ⟨u, rfl, ?_⟩
    rw [hl]
    refine (enc_spec ou.toRd (k := 2) (e := e) (s := f) (l := rr.length) (by omega) hge (by omega) (by omega) (by rw [sumL_length]; omega)).mono ?_
    rintro _ h3 ⟨t, rfl, ot, e3⟩
    refine ⟨t, _, rfl, ?_⟩
    intro h4
    refine OwnRows.push rfl o1 s1 (e2.trans e3) (ot.weak e2.size) (by omega) (fun q h5 o5 l5 k5 _ _ => ?_) (by omega)
    refine ⟨q, _, rfl, o5, ?_, (e1.toKeep.trans k5).ext⟩
    rw [List.map_append, hrows]
    simp [grpL, comB]

/-! ### Writing -/
theorem logWrite_spec {lo : Nat} {F : Nat → Nat} {h : Hp} {db lb : Nat} {d : Dv} {S : LgV} {rs : Sl} (x : DevAt lo F h db d) (hlo : lo ≤ h.size) (row : Row h lb (lgC db S rs)) (hF : F lb = 0) (o : S.Ok) (half : Nat) (hh : half ≤ 1) (pos : Nat) {s : Sl} {rows : List (Sl × List UInt8)} (hp : pos + rows.length ≤ 200000)
    (r : RowsR h s rows) (ri : RowsIn (fun b => F b = 0 ∧ b < h.size) s rows) :
    HCalls Try.prog fn_seglog_Log_write #[.pointer (some ⟨lb, 0, none⟩), .int .i64 (half : Int), .int .i64 (pos : Int), .slice s.base s.len s.cap] h fun v h' => v = .int .i64 (d.wrt (S.base half) S.size pos (rows.map (·.2))).1 ∧ DevTo lo F h h' db (d.wrt (S.base half) S.size pos (rows.map (·.2))).2 := by
  apply seglog_Log_write_vc
  unfold vcseglog_Log_write
  have hl := r.len
  have hsz := o.size
  refine ⟨fun i m h' => ∃ (k : Nat) (F' : Nat → Nat) (d' : Dv), i = k ∧ m + k = rows.length ∧ d.puts (S.base half) S.size pos (rows.map (·.2)) = d'.puts (S.base half) S.size (pos + k) ((rows.map (·.2)).drop k) ∧ DevAt lo F' h' db d' ∧ (∀ b, b < h.size → F' b = F b) ∧ Chg F h h', rows.length,
    ⟨0, F, d, rfl, rfl, by rw [List.drop_zero]; rfl, x, fun _ _ => rfl, .refl _ _⟩, ?_⟩
  rintro _ _ m h1 ⟨k, F1, d1, rfl, hm, hp1, x1, g1, c1⟩
  have s1 := c1.size
  have row1 := row.chg c1 hF
  have hF1 : F1 lb = 0 := by rw [g1 _ row.lt]; exact hF
  have r1 : RowsR h1 s rows := r.eq ri fun b hb => c1.block b hb.2 hb.1
  refine IfB.dec (fun hlt => ?_) (fun hge => ?_)
  · have hk : k < rows.length := by omega
    have hke : k < (rows.map (·.2)).length := by simpa using hk
    have hmem : rows[k] ∈ rows := List.getElem_mem hk
    refine ixS r1.rd.rd hl k rfl hk ?_
    obtain ⟨ob, hob, rob⟩ := row1.only
    refine ⟨onlyB lb ob, sub_only hob, _, rfl, _, rob.get0 rfl, _, rfl, _, rob.get rfl, by omega, ?_⟩
    have ez : iQuo .i64 (iAdd .i64 (pos : Int) (k : Int)) (S.size : Int) = (((pos + k) / S.size : Nat) : Int) := by
      rw [iAdd64 (by omega), iQuo64 (by omega)]
      rw [show (pos : Int) + (k : Int) = ((pos + k : Nat) : Int) by push_cast; rfl, Int.tdiv_eq_ediv_of_nonneg (by omega)]; rfl
    rw [ez]
    have hq : (pos + k) / S.size ≤ pos + k := Nat.div_le_self _ _
    refine (zone_spec row1 o.toOk0 half hh ((pos + k) / S.size) (by omega)).mono ?_
    rintro _ h1' ⟨rfl, hh1⟩
    obtain rfl := hh1.symm
    refine ⟨_, rfl, sub_only hob, ?_⟩
    refine (Append_spec x1 (by omega) _ (r1.each _ hmem) fun a ha => ?_).mono ?_
    · have := ri.each _ hmem a ha
      rw [g1 _ this.2]; exact this.1
    rintro _ h2 ⟨rfl, t2⟩
    have hd : (rows.map (·.2)).drop k = rows[k].2 :: (rows.map (·.2)).drop (k + 1) := by
      rw [List.drop_eq_getElem_cons hke, List.getElem_map]
    rw [hd, Dv.puts] at hp1
    refine ⟨_, _, rfl, ?_, ?_⟩
    · obtain ⟨F2, x2, g2, c2⟩ := t2
      exact sub_only (by rw [c2.block lb row1.lt hF1]; exact hob)
    refine IfB.ne (fun hne => ?_) (fun heq => ?_)
    · rw [if_pos hne] at hp1
      unfold Dv.wrt
      rw [hp1, if_pos hne]
      exact ⟨rfl, DevTo.trans g1 c1 t2⟩
    · rw [if_neg (by omega)] at hp1
      obtain ⟨F2, x2, g2, c2⟩ := DevTo.trans g1 c1 t2
      exact ⟨m - 1, by omega, k + 1, F2, _, by rw [iAdd64 (by omega)]; push_cast; rfl, by omega, hp1, x2, g2, c2⟩
  · have hk : k = rows.length := by omega
    rw [List.drop_of_length_le (by simp; omega), Dv.puts] at hp1
    refine ⟨_, rfl, _, row1.get0 rfl, ?_⟩
    refine (Flush_spec x1).mono ?_
    rintro _ h2 ⟨rfl, t2⟩
    refine ⟨_, rfl, ?_⟩
    unfold Dv.wrt
    rw [hp1, if_neg (by simp)]
    exact ⟨rfl, DevTo.trans g1 c1 t2⟩

/-- what an op makes of a log and its device. -/
def LgOut (lo : Nat) (F : Nat → Nat) (h : Hp) (lb db : Nat) (d : Dv) (S : LgV) (rs : Sl) (rr : List (Sl × List UInt8)) (h' : Hp) : Prop :=
  ∃ F', DevAt lo F' h' db d ∧ LogAt F' h' lb db S rs rr ∧ h.size ≤ h'.size ∧ (∀ b, b < h.size → F' b = F b) ∧ ∀ b, b < h.size → F b = 0 → b ≠ lb → h'[b]? = h[b]?
theorem LgOut.of {lo : Nat} {F : Nat → Nat} {h h' : Hp} {lb db : Nat} {d' : Dv} {S : LgV} {rs : Sl} {rr : List (Sl × List UInt8)} (la : LogAt F h lb db S rs rr) (t : DevTo lo F h h' db d') : LgOut lo F h lb db d' S rs rr h' := by
  obtain ⟨F', x', g, c⟩ := t
  exact ⟨F', x', la.chg c g, c.size, g, fun b hb hF _ => c.block b hb hF⟩
theorem logTurn_spec {lo : Nat} {F : Nat → Nat} {h : Hp} {db lb : Nat} {d : Dv} {S : LgV} {rs : Sl} {rr : List (Sl × List UInt8)} (x : DevAt lo F h db d) (hlo : lo ≤ h.size) (la : LogAt F h lb db S rs rr) (o : S.Ok) (hn : S.low + 2 * S.count ≤ d.n) {f : Nat} {s : Sl} {rows : List (Sl × List UInt8)}
    (r : RowsR h s rows) (ri : RowsIn (fun b => F b = 0 ∧ b < h.size ∧ b ≠ lb) s rows) (g : GrpOk (S.epoch + 1) f (rows.map (·.2))) :
    HCalls Try.prog fn_seglog_Log_turn #[.pointer (some ⟨lb, 0, none⟩), .int .i64 (f : Int), .slice s.base s.len s.cap] h fun v h' => v = .int .i64 (turnV d S f (rows.map (·.2))).1 ∧ LgOut lo F h lb db (turnV d S f (rows.map (·.2))).2.1 (turnV d S f (rows.map (·.2))).2.2 rs rr h' := by
  apply seglog_Log_turn_vc
  unfold vcseglog_Log_turn
  have row := la.row
  have hF := la.role
  have hhalf := o.half
  have hep := o.epoch
  have hcnt := o.count
  have hroom := o.toOk0.room
  have hl := r.len
  have hgf := g.f
  rw [List.length_map] at hgf
  refine ⟨_, rfl, _, row.get rfl, _, rfl, _, row.get rfl, ?_⟩
  refine (logRoom_spec row o.toOk0).mono ?_
  rintro _ h1' ⟨rfl, hh1⟩
  obtain rfl := hh1.symm
  refine ⟨_, rfl, ?_⟩
  have e2 : iAdd .i64 (s.len : Int) (2 : Int) = ((rows.length + 2 : Nat) : Int) := by rw [iAdd64 (by omega)]; omega
  rw [e2]
  have eh : iSub .i64 (1 : Int) (S.half : Int) = ((1 - S.half : Nat) : Int) := by rw [iSub64 (by omega)]; omega
  rw [eh]
  refine IfB.dec (fun hbig => ?_) (fun hfit => ?_)
  · have hv : turnV d S f (rows.map (·.2)) = (9, d, S) := by
      unfold turnV; rw [if_pos (by rw [List.length_map]; omega)]
    rw [hv]
    exact ⟨rfl, LgOut.of la (DevTo.refl x)⟩
  have hbn : S.base (1 - S.half) + S.count ≤ d.n := by
    have : (1 - S.half) * S.count ≤ 1 * S.count := Nat.mul_le_mul_right _ (by omega)
    unfold LgV.base; omega
  have hr9 : ¬ S.count * S.size < (rows.map (·.2)).length + 2 := by rw [List.length_map]; omega
  refine ⟨_, rfl, _, row.get rfl, ?_⟩
  refine ⟨fun i m h' => ∃ (j : Nat) (F' : Nat → Nat) (d' : Dv), i = j ∧ m + j = S.count ∧ d.clear (S.base (1 - S.half)) S.count = d'.clear (S.base (1 - S.half) + j) (S.count - j) ∧ d'.n = d.n ∧ DevAt lo F' h' db d' ∧ (∀ b, b < h.size → F' b = F b) ∧ Chg F h h', S.count,
    ⟨0, F, d, rfl, rfl, rfl, rfl, x, fun _ _ => rfl, .refl _ _⟩, ?_⟩
  rintro _ _ m h1 ⟨j, F1, d1, rfl, hm, hcl, hn1, x1, g1, c1⟩
  have row1 := row.chg c1 hF
  have s1 := c1.size
  have hF1 : F1 lb = 0 := by rw [g1 _ row.lt]; exact hF
  refine IfB.dec (fun hlt => ?_) (fun hge => ?_)
  · refine ⟨_, rfl, _, row1.get0 rfl, ?_⟩
    refine (zone_spec row1 o.toOk0 (1 - S.half) (by omega) j (by omega)).mono ?_
    rintro _ h1' ⟨rfl, hh1⟩
    obtain rfl := hh1.symm
    refine ⟨_, rfl, .refl _, ?_⟩
    have hsub : S.count - j = (S.count - (j + 1)) + 1 := by omega
    rw [hsub, Dv.clear] at hcl
    refine (Pointer_spec x1 _).mono ?_
    rintro _ h1' ⟨hh1, ⟨hno, _⟩ | ⟨k', hk', hkn, rfl⟩⟩
    · exact absurd ⟨by omega, by rw [hn1]; omega⟩ hno
    obtain rfl := hh1.symm
    obtain rfl : k' = S.base (1 - S.half) + j := by omega
    refine ⟨_, _, rfl, .refl _, IfB.dec (fun hpos => ?_) (fun hz => ?_)⟩
    · rw [if_neg (by omega)] at hcl
      obtain ⟨ob, hob, rob⟩ := row1.only
      refine ⟨onlyB lb ob, sub_only hob, _, rfl, _, rob.get0 rfl, ?_⟩
      refine (zone_spec row1 o.toOk0 (1 - S.half) (by omega) j (by omega)).mono ?_
      rintro _ h1' ⟨rfl, hh1⟩
      obtain rfl := hh1.symm
      refine ⟨_, rfl, sub_only hob, ?_⟩
      refine (Reset_spec x1 _).mono ?_
      rintro _ h2 ⟨rfl, t2⟩
      refine ⟨_, rfl, ?_, IfB.ne (fun hne => ?_) (fun heq => ?_)⟩
      · obtain ⟨F2, x2, g2, c2⟩ := t2
        exact sub_only (by rw [c2.block lb row1.lt hF1]; exact hob)
      · rw [if_pos hne] at hcl
        have hv : turnV d S f (rows.map (·.2)) = ((d1.reset ((S.base (1 - S.half) + j : Nat) : Int)).1, (d1.reset ((S.base (1 - S.half) + j : Nat) : Int)).2, S) := by
          unfold turnV; rw [if_neg hr9, hcl, if_pos hne]
        rw [hv]
        exact ⟨rfl, LgOut.of la (DevTo.trans g1 c1 t2)⟩
      · rw [if_neg (by omega)] at hcl
        obtain ⟨F2, x2, g2, c2⟩ := DevTo.trans g1 c1 t2
        exact ⟨m - 1, by omega, j + 1, F2, _, by rw [iAdd64 (by omega)]; push_cast; rfl, by omega, by rw [hcl, Nat.add_assoc], by rw [← hn1]; unfold Dv.reset; (repeat' split) <;> rfl, x2, g2, c2⟩
    · rw [if_pos (by omega)] at hcl
      exact ⟨m - 1, by omega, j + 1, F1, d1, by rw [iAdd64 (by omega)]; push_cast; rfl, by omega, by rw [hcl, Nat.add_assoc], hn1, x1, g1, c1⟩
  have hj : S.count - j = 0 := by omega
  rw [hj, Dv.clear] at hcl
  have ee : iAdd .i64 (S.epoch : Int) (1 : Int) = ((S.epoch + 1 : Nat) : Int) := by rw [iAdd64 (by omega)]; push_cast; rfl
  rw [ee]
  have r1 : RowsR h1 s rows := r.eq ri fun b hb => c1.block b hb.2.1 hb.1
  refine (enc_spec (h := h1) (u := Sl.nil) (bs := []) (Rd.nil _ _) (k := 3) (e := S.epoch + 1) (s := f) (l := 0) (by omega) (by omega) (by omega) (by omega) (by simp)).mono ?_
  rintro _ h2 ⟨u, rfl, ou, e2⟩
  refine ⟨u, _, rfl, ?_⟩
  intro h3
  have e3 : Ext h2 h3 := alc_ext _ _ _
  have e13 := e2.trans e3
  refine (group_spec (r1.ext e13) g).mono ?_
  rintro _ h4 ⟨t, rows4, rfl, o4, hr4, e4⟩
  refine ⟨t, rfl, ?_⟩
  intro h5
  have e5 : Ext h4 h5 := alc_ext _ _ _
  have s2 := e2.size
  have s3 := e3.size
  have s4 := e4.size
  have s5 := e5.size
  have rd5 : RdC h5 (some (nw h4)) [slV (Sl.mk (some (nw h2)) 1 1), slV t] := RdC.alc h4 _ _
  have rd2 : Rd 1 h5 (Sl.mk (some (nw h2)) 1 1) [slV u] := ⟨rfl, Nat.le_refl _, ((RdC.alc h2 [slV u] ty_suint8 : RdC h3 (some (nw h2)) [slV u]).ext e4).ext e5⟩
  have hlen4 : rows4.length = rows.length + 1 := by
    have := congrArg List.length hr4
    rw [List.length_map, grpL_length, List.length_map] at this; omega
  refine (rowsConcat_spec (s := Sl.mk (some (nw h4)) 2 2) (rows := [(Sl.mk (some (nw h2)) 1 1, [slV u]), (t, rows4.map fun p => slV p.1)]) rfl rd5 ?_ ?_ (by show 2 ≤ 1000000; omega) ?_).mono ?_
  · intro p hp
    simp only [List.mem_cons, List.not_mem_nil, or_false] at hp
    rcases hp with rfl | rfl
    · exact rd2
    · exact o4.own.toRd.ext e5
  · intro p hp
    simp only [List.mem_cons, List.not_mem_nil, or_false] at hp
    rcases hp with rfl | rfl
    · intro v hv; simp at hv; subst hv; rfl
    · exact slV_all rows4
  · simp [catV]; omega
  rintro _ h6 ⟨q, rfl, oq, lq, e6⟩
  refine ⟨q, rfl, ?_⟩
  have s6 := e6.size
  have e16 : Ext h1 h6 := ((e13.trans e4).trans e5).trans e6
  let G : List (Sl × List UInt8) := (u, headB (S.epoch + 1) f) :: rows4
  have hGv : catV [(Sl.mk (some (nw h2)) 1 1, [slV u]), (t, rows4.map fun p => slV p.1)] = G.map fun p => slV p.1 := by simp [catV, G]
  have hG2 : G.map (·.2) = genL (S.epoch + 1) f (rows.map (·.2)) := by
    show headB (S.epoch + 1) f :: rows4.map (·.2) = _
    rw [hr4]; rfl
  have hGl : G.length = rows.length + 2 := by show (_ :: rows4).length = _; rw [List.length_cons, hlen4]
  rw [hGv] at oq lq
  have rG : RowsR h6 q G := ⟨oq.toRd, fun p hp => by
    rcases List.mem_cons.1 hp with rfl | hp
    · exact ((ou.toRd.ext e3).ext e4 |>.ext e5).ext e6
    · exact ((o4.each p hp).ext e5).ext e6⟩
  have F1z : ∀ b, h1.size ≤ b → F1 b = 0 := fun b hb => x1.free hb
  have riG : RowsIn (fun b => F1 b = 0 ∧ b < h6.size) q G := ⟨fun a ha => by
    have := oq.lt ha
    exact ⟨F1z _ (by omega), this.2⟩, fun p hp a ha => by
    rcases List.mem_cons.1 hp with rfl | hp
    · have := ou.lt ha
      exact ⟨F1z _ (by omega), by omega⟩
    · have := o4.base p hp a ha
      exact ⟨F1z _ (by omega), by omega⟩⟩
  have row6 := row1.ext e16
  refine (logWrite_spec (x1.ext e16) (by omega) row6 hF1 o (1 - S.half) (by omega) 0 (rows := G) (by rw [hGl]; omega) rG riG).mono ?_
  rw [hG2]
  rintro _ h7 ⟨rfl, t7⟩
  refine ⟨_, rfl, ?_⟩
  have hcl1 : (d.clear (S.base (1 - S.half)) S.count) = (0, d1) := hcl
  have t07 : DevTo lo F h h7 db (d1.wrt (S.base (1 - S.half)) S.size 0 (genL (S.epoch + 1) f (rows.map (·.2)))).2 := DevTo.trans g1 c1 (by
    obtain ⟨F7, x7, g7, c7⟩ := t7
    exact ⟨F7, x7, fun b hb => g7 b (by have := e16.size; omega), (e16.chg F1).trans (fun _ _ => rfl) c7⟩)
  refine IfB.ne (fun hne => ?_) (fun heq => ?_)
  · have hv : turnV d S f (rows.map (·.2)) = ((d1.wrt (S.base (1 - S.half)) S.size 0 (genL (S.epoch + 1) f (rows.map (·.2)))).1, (d1.wrt (S.base (1 - S.half)) S.size 0 (genL (S.epoch + 1) f (rows.map (·.2)))).2, S) := by
      unfold turnV; rw [if_neg hr9, hcl1, if_neg (by simp), if_pos hne]
    rw [hv]
    exact ⟨rfl, LgOut.of la t07⟩
  · have hv : turnV d S f (rows.map (·.2)) = (0, (d1.wrt (S.base (1 - S.half)) S.size 0 (genL (S.epoch + 1) f (rows.map (·.2)))).2, { S with half := 1 - S.half, epoch := S.epoch + 1, pos := rows.length + 2 }) := by
      have hneg : ¬ (d1.wrt (S.base (1 - S.half)) S.size 0 (genL (S.epoch + 1) f (rows.map (·.2)))).1 ≠ 0 := fun h => h heq
      unfold turnV; rw [if_neg hr9, hcl1, if_neg (by simp), if_neg hneg, List.length_map]
    rw [hv]
    obtain ⟨F7, x7, la7, s07, g07, y07⟩ := LgOut.of la t07
    have row7 := la7.row
    refine ⟨_, rfl, ?_⟩
    obtain ⟨ok8, r8, o8, s8⟩ := row7.set (i := 4) (by simp [lgC]) (.int .i64 ((1 - S.half : Nat) : Int))
    refine ⟨ok8, _, rfl, ?_⟩
    obtain ⟨ok9, r9, o9, s9⟩ := r8.set (i := 5) (by simp [lgC]) (.int .i64 ((S.epoch + 1 : Nat) : Int))
    refine ⟨ok9, _, rfl, ?_⟩
    have eq : (q.len : Int) = ((rows.length + 2 : Nat) : Int) := by
      rw [lq, List.length_map, hGl]
    rw [eq]
    obtain ⟨ok10, r10, o10, s10⟩ := r9.set (i := 6) (by simp [lgC]) (.int .i64 ((rows.length + 2 : Nat) : Int))
    refine ⟨ok10, rfl, F7, ?_, la7.put (S' := { S with half := 1 - S.half, epoch := S.epoch + 1, pos := rows.length + 2 }) r10 (by rw [s10, s9, s8]) (fun b hb => by rw [o10 _ hb, o9 _ hb, o8 _ hb]) rfl, by rw [s10, s9, s8]; exact s07, g07, fun b hb hFb hne => by rw [o10 _ hne, o9 _ hne, o8 _ hne]; exact y07 b hb hFb hne⟩
    exact x7.keep (by rw [s10, s9, s8]; exact Nat.le_refl _) fun b hb => by
      have hne : b ≠ lb := fun e => hb (by rw [e]; exact la7.role)
      rw [o10 _ hne, o9 _ hne, o8 _ hne]
theorem logPut_spec {lo : Nat} {F : Nat → Nat} {h : Hp} {db lb : Nat} {d : Dv} {S : LgV} {rs : Sl} {rr : List (Sl × List UInt8)} (x : DevAt lo F h db d) (hlo : lo ≤ h.size) (la : LogAt F h lb db S rs rr) (o : S.Ok) (hn : S.low + 2 * S.count ≤ d.n) {f : Nat} {s t : Sl} {rows bl : List (Sl × List UInt8)}
    (rb : RowsR h t bl) (rbi : RowsIn (fun b => F b = 0 ∧ b < h.size) t bl) (hbl : bl.length ≤ 100000)
    (r : RowsR h s rows) (ri : RowsIn (fun b => F b = 0 ∧ b < h.size ∧ b ≠ lb) s rows) (g : GrpOk (S.epoch + 1) f (rows.map (·.2))) :
    HCalls Try.prog fn_seglog_Log_put #[.pointer (some ⟨lb, 0, none⟩), .slice t.base t.len t.cap, .int .i64 (f : Int), .slice s.base s.len s.cap] h fun v h' => v = .int .i64 (putV d S (bl.map (·.2)) f (rows.map (·.2))).1 ∧
      ∃ rs' rr', LgOut lo F h lb db (putV d S (bl.map (·.2)) f (rows.map (·.2))).2.1 (putV d S (bl.map (·.2)) f (rows.map (·.2))).2.2 rs' rr' h' ∧ ∀ P : Nat → Prop, RowsIn P rs rr → RowsIn P s rows → RowsIn P rs' rr' := by
  apply seglog_Log_put_vc
  unfold vcseglog_Log_put
  have row := la.row
  have hpos := o.pos
  have hroom := o.toOk0.room
  have hl := rb.len
  -- how it ends
  let V : Int × Dv × LgV := if S.pos + (bl.map (·.2)).length ≤ S.count * S.size then wrV d S (bl.map (·.2)) else turnV d S f (rows.map (·.2))
  have hV : putV d S (bl.map (·.2)) f (rows.map (·.2)) = finV f (rows.map (·.2)) V := rfl
  rw [hV]
  refine ⟨fun e h' => e = V.1 ∧ LgOut lo F h lb db V.2.1 V.2.2 rs rr h', ?_, ?_⟩
  · refine ⟨_, rfl, _, row.get rfl, ?_⟩
    refine (logRoom_spec row o.toOk0).mono ?_
    rintro _ h1' ⟨rfl, hh1⟩
    obtain rfl := hh1.symm
    refine ⟨_, rfl, .refl _, ?_⟩
    have e1 : iAdd .i64 (S.pos : Int) (t.len : Int) = ((S.pos + bl.length : Nat) : Int) := by rw [iAdd64 (by omega)]; omega
    rw [e1]
    refine IfB.dec (fun hfit => ?_) (fun hno => ?_)
    · have hVe : V = wrV d S (bl.map (·.2)) := if_pos (by rw [List.length_map]; omega)
      rw [hVe]
      obtain ⟨ob, hob, rob⟩ := row.only
      refine ⟨onlyB lb ob, sub_only hob, _, rfl, _, rob.get rfl, _, rfl, _, rob.get rfl, ?_⟩
      refine (logWrite_spec x hlo row la.role o S.half o.half S.pos (rows := bl) (by omega) rb rbi).mono ?_
      rintro _ h2 ⟨rfl, t2⟩
      obtain ⟨F2, x2, g2, c2⟩ := t2
      refine ⟨_, rfl, sub_only (by rw [c2.block lb row.lt la.role]; exact hob), ?_⟩
      have t2' : DevTo lo F h h2 db (d.wrt (S.base S.half) S.size S.pos (bl.map (·.2))).2 := ⟨F2, x2, g2, c2⟩
      unfold wrV
      refine IfB.eq (fun heq => ?_) (fun hne => ?_)
      · rw [if_neg (by omega)]
        obtain ⟨F7, x7, la7, s07, g07, y07⟩ := LgOut.of la t2'
        refine ⟨_, rfl, _, la7.row.get rfl, _, rfl, ?_⟩
        have e3 : iAdd .i64 (S.pos : Int) (t.len : Int) = ((S.pos + (bl.map (·.2)).length : Nat) : Int) := by rw [e1, List.length_map]
        rw [e3]
        obtain ⟨ok8, r8, o8, s8⟩ := la7.row.set (i := 6) (by simp [lgC]) (.int .i64 ((S.pos + (bl.map (·.2)).length : Nat) : Int))
        refine ⟨ok8, heq, F7, ?_, la7.put (S' := { S with pos := S.pos + (bl.map (·.2)).length }) r8 s8 o8 rfl, by rw [s8]; exact s07, g07, fun b hb hFb hne => by rw [o8 _ hne]; exact y07 b hb hFb hne⟩
        exact x7.keep (by rw [s8]; exact Nat.le_refl _) fun b hb => o8 _ fun e => hb (by rw [e]; exact la7.role)
      · rw [if_pos hne]
        exact ⟨rfl, LgOut.of la t2'⟩
    · have hVe : V = turnV d S f (rows.map (·.2)) := if_neg (by rw [List.length_map]; omega)
      rw [hVe]
      refine (logTurn_spec x hlo la o hn r ri g).mono ?_
      rintro _ h2 ⟨rfl, t2⟩
      exact ⟨_, rfl, rfl, t2⟩
  · rintro _ e h4 ⟨rfl, F4, x4, la4, s4, g4, y4⟩
    unfold finV
    have ri4 : RowsR h4 s rows := r.eq ri fun b hb => y4 b hb.2.1 hb.1 hb.2.2
    refine IfB.eq (fun heq => ?_) (fun hne => IfB.eq (fun h9 => ?_) (fun hn9 => ?_))
    · rw [if_pos heq]
      refine ⟨_, rfl, ?_⟩
      obtain ⟨ok5, r5, o5, s5⟩ := la4.row.set (i := 7) (by simp [lgC]) (.int .i64 (f : Int))
      refine ⟨ok5, _, rfl, ?_⟩
      obtain ⟨ok6, r6, o6, s6⟩ := r5.set (i := 8) (by simp [lgC]) (.slice s.base s.len s.cap)
      refine ⟨ok6, rfl, s, rows, ⟨F4, ?_, ⟨la4.role, r6, ri4.eq (P := fun b => b ≠ lb) (ri.mono fun b hb => hb.2.2) fun b hb => by rw [o6 b hb, o5 b hb], ri.mono fun b hb => ⟨by rw [g4 _ hb.2.1]; exact hb.1, by rw [s6, s5]; omega, hb.2.2⟩, rfl⟩, by rw [s6, s5]; exact s4, g4, fun b hb hFb hne => by rw [o6 _ hne, o5 _ hne]; exact y4 b hb hFb hne⟩, fun P _ h => h⟩
      exact x4.keep (by rw [s6, s5]; exact Nat.le_refl _) fun b hb => by
        have hne : b ≠ lb := fun e => hb (by rw [e]; exact la4.role)
        rw [o6 _ hne, o5 _ hne]
    · rw [if_neg hne, if_pos h9]
      exact ⟨rfl, rs, rr, ⟨F4, x4, la4, s4, g4, y4⟩, fun P h _ => h⟩
    · rw [if_neg hne, if_neg hn9]
      refine ⟨_, rfl, ?_⟩
      obtain ⟨ok5, r5, o5, s5⟩ := la4.row.set (i := 9) (by simp [lgC]) (.bool true)
      refine ⟨ok5, rfl, rs, rr, ⟨F4, ?_, la4.put (S' := { V.2.2 with off := true }) r5 s5 o5 rfl, by rw [s5]; exact s4, g4, fun b hb hFb hne => by rw [o5 _ hne]; exact y4 b hb hFb hne⟩, fun P h _ => h⟩
      exact x4.keep (by rw [s5]; exact Nat.le_refl _) fun b hb => o5 _ fun e => hb (by rw [e]; exact la4.role)

end Go.Proofs.Ytippdkokbhejmaa
