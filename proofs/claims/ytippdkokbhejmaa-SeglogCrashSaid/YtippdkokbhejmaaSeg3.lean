/-
  seglog: a log in memory; zone, room, blocks, strange.
-/
import Derived.Test.YtippdkokbhejmaaSeg2
import Derived.Test.YtippdkokbhejmaaLog1
namespace Go.Proofs.Ytippdkokbhejmaa
set_option linter.unusedVariables false
set_option linter.unusedSimpArgs false

def lgC (db : Nat) (S : LgV) (rs : Sl) : List Value := [dp db, .int .i64 (S.low : Int), .int .i64 (S.count : Int), .int .i64 (S.size : Int), .int .i64 (S.half : Int), .int .i64 (S.epoch : Int), .int .i64 (S.pos : Int), .int .i64 (S.first : Int), .slice rs.base rs.len rs.cap, .bool S.off]
/-- a log that stands there: its own block and its records. -/
structure LogAt (F : Nat → Nat) (h : Hp) (lb db : Nat) (S : LgV) (rs : Sl) (rr : List (Sl × List UInt8)) : Prop where
  role : F lb = 0
  row : Row h lb (lgC db S rs)
  recs : RowsR h rs rr
  rin : RowsIn (fun b => F b = 0 ∧ b < h.size ∧ b ≠ lb) rs rr
  eq : rr.map (·.2) = S.recs
theorem LogAt.rl {F : Nat → Nat} {h : Hp} {lb db : Nat} {S : LgV} {rs : Sl} {rr : List (Sl × List UInt8)} (x : LogAt F h lb db S rs rr) : rs.len = S.recs.length ∧ rs.len = rr.length := by
  have := x.recs.len
  have h2 := congrArg List.length x.eq
  simp at h2; omega
theorem LogAt.move {F F' : Nat → Nat} {h h' : Hp} {lb db : Nat} {S : LgV} {rs : Sl} {rr : List (Sl × List UInt8)} (x : LogAt F h lb db S rs rr) (hs : h.size ≤ h'.size) (g : ∀ b, b < h.size → F' b = F b) (e : ∀ b, b < h.size → F b = 0 → h'[b]? = h[b]?) : LogAt F' h' lb db S rs rr :=
  ⟨by rw [g _ x.row.lt]; exact x.role, x.row.eq (e _ x.row.lt x.role), x.recs.eq x.rin fun b hb => e b hb.2.1 hb.1, x.rin.mono fun b hb => ⟨by rw [g _ hb.2.1]; exact hb.1, by omega, hb.2.2⟩, x.eq⟩
theorem LogAt.ext {F : Nat → Nat} {h h' : Hp} {lb db : Nat} {S : LgV} {rs : Sl} {rr : List (Sl × List UInt8)} (x : LogAt F h lb db S rs rr) (e : Ext h h') : LogAt F h' lb db S rs rr := x.move e.size (fun _ _ => rfl) fun b hb _ => e.block b hb
theorem LogAt.chg {F F' : Nat → Nat} {h h' : Hp} {lb db : Nat} {S : LgV} {rs : Sl} {rr : List (Sl × List UInt8)} (x : LogAt F h lb db S rs rr) (c : Chg F h h') (g : ∀ b, b < h.size → F' b = F b) : LogAt F' h' lb db S rs rr := x.move c.size g c.block
/-- cells of the log's own block change. -/
theorem LogAt.put {F : Nat → Nat} {h h' : Hp} {lb db : Nat} {S S' : LgV} {rs : Sl} {rr : List (Sl × List UInt8)} (x : LogAt F h lb db S rs rr) (row : Row h' lb (lgC db S' rs)) (hs : h'.size = h.size) (e : ∀ b, b ≠ lb → h'[b]? = h[b]?) (hr : S'.recs = S.recs) : LogAt F h' lb db S' rs rr :=
  ⟨x.role, row, x.recs.eq x.rin fun b hb => e b hb.2.2, x.rin.mono fun b hb => ⟨hb.1, by omega, hb.2.2⟩, by rw [hr]; exact x.eq⟩
/-- numbers that the machine has. -/
structure LgV.Ok0 (S : LgV) : Prop where
  low : S.low ≤ 64
  count : S.count ≤ 64
  size : 1 ≤ S.size ∧ S.size ≤ 192
  half : S.half ≤ 1
structure LgV.Ok (S : LgV) : Prop extends LgV.Ok0 S where
  epoch : S.epoch ≤ 1000000
  pos : S.pos ≤ 20000
  first : S.first ≤ 1000000
  recs : S.recs.length ≤ 100000
theorem LgV.Ok0.room {S : LgV} (o : S.Ok0) : S.count * S.size ≤ 64 * 192 := Nat.mul_le_mul o.count o.size.2
theorem zone_spec {h : Hp} {lb db : Nat} {S : LgV} {rs : Sl} (row : Row h lb (lgC db S rs)) (o : S.Ok0) (half : Nat) (hh : half ≤ 1) (i : Nat) (hi : i ≤ 1000000) :
    HCalls Try.prog fn_seglog_Log_zone #[.pointer (some ⟨lb, 0, none⟩), .int .i64 (half : Int), .int .i64 (i : Int)] h fun r h' => r = .int .i64 ((S.base half + i : Nat) : Int) ∧ h' = h := by
  apply seglog_Log_zone_vc
  unfold vcseglog_Log_zone
  refine ⟨_, rfl, _, row.get rfl, _, rfl, _, row.get rfl, ?_, rfl⟩
  have h1 := o.low
  have h2 := o.count
  have hm : half * S.count ≤ 1 * S.count := Nat.mul_le_mul_right _ hh
  have hc : ((half * S.count : Nat) : Int) = (half : Int) * (S.count : Int) := Int.natCast_mul _ _
  rw [iMul64 (by omega), ← hc, iAdd64 (a := (S.low : Int)) (b := ((half * S.count : Nat) : Int)) (by omega), iAdd64 (by omega)]
  unfold LgV.base
  push_cast; rfl
theorem logRoom_spec {h : Hp} {lb db : Nat} {S : LgV} {rs : Sl} (row : Row h lb (lgC db S rs)) (o : S.Ok0) :
    HCalls Try.prog fn_seglog_Log_room #[.pointer (some ⟨lb, 0, none⟩)] h fun r h' => r = .int .i64 ((S.count * S.size : Nat) : Int) ∧ h' = h := by
  apply seglog_Log_room_vc
  unfold vcseglog_Log_room
  refine ⟨_, rfl, _, row.get rfl, _, rfl, _, row.get rfl, ?_, rfl⟩
  have := o.room
  have hc : ((S.count * S.size : Nat) : Int) = (S.count : Int) * (S.size : Int) := Int.natCast_mul _ _
  rw [iMul64 (by omega), ← hc]
theorem logBlocks_spec {lo : Nat} {F : Nat → Nat} {h : Hp} {db lb : Nat} {d : Dv} {S : LgV} {rs : Sl} (x : DevAt lo F h db d) (row : Row h lb (lgC db S rs)) (hF : F lb = 0) (o : S.Ok0) (half : Nat) (hh : half ≤ 1) (hn : S.low + 2 * S.count ≤ d.n) (hsz : S.size = d.size) :
    HCalls Try.prog fn_seglog_Log_blocks #[.pointer (some ⟨lb, 0, none⟩), .int .i64 (half : Int)] h fun r h' => ∃ (out : Sl) (rows : List (Sl × List UInt8)) (q : Int), r = .slice out.base out.len out.cap ∧ OwnRows h.size h' out rows ∧ rows.map (·.2) = zRows d (S.base half) S.count ∧ DevAt lo F h' db (withReads d q) ∧ Chg F h h' := by
  apply seglog_Log_blocks_vc
  unfold vcseglog_Log_blocks
  have w := x.1
  have hnz := w.zones
  have hsz2 := w.size
  have hcnt := o.count
  have hbn : S.base half + S.count ≤ d.n := by
    have : half * S.count ≤ 1 * S.count := Nat.mul_le_mul_right _ hh
    unfold LgV.base; omega
  refine ⟨_, rfl, _, row.get rfl, ?_⟩
  refine ⟨fun out z m h' => ∃ (j : Nat) (rows : List (Sl × List UInt8)) (q : Int), z = (j : Int) ∧ m + j = S.count ∧ OwnRows h.size h' out rows ∧ rows.map (·.2) ++ zRows d (S.base half + j) (S.count - j) = zRows d (S.base half) S.count ∧ rows.length ≤ j * 192 ∧ DevAt lo F h' db (withReads d q) ∧ Chg F h h', S.count,
    ⟨0, [], d.reads, rfl, rfl, OwnRows.nil _ _, by simp, by simp, x, .refl _ _⟩, ?_⟩
  rintro _ out _ m h1 ⟨j, rows, q, rfl, hm, o1, hrows, hlen, x1, c1⟩
  have row1 := row.chg c1 hF
  have s1 := c1.size
  refine IfB.dec (fun hlt => ?_) (fun hge => ?_)
  · refine ⟨_, rfl, _, row1.get0 rfl, ?_⟩
    refine (zone_spec row1 o half hh j (by omega)).mono ?_
    rintro _ h1' ⟨rfl, hh1⟩
    obtain rfl := hh1.symm
    refine ⟨_, rfl, .refl _, ?_⟩
    refine (Pointer_spec x1 _).mono ?_
    rintro _ h1' ⟨hh1, ⟨hno, _⟩ | ⟨k', hk', hkn, rfl⟩⟩
    · exact absurd ⟨by omega, by show ((S.base half + j : Nat) : Int) < (d.n : Int); omega⟩ hno
    obtain rfl := hh1.symm
    obtain rfl : k' = S.base half + j := by omega
    refine ⟨_, _, rfl, .refl _, ?_⟩
    have hzr := (w.zone (S.base half + j)).rows
    refine ⟨fun out t m h' => ∃ (k : Nat) (rows' : List (Sl × List UInt8)) (q : Int), t = k ∧ m + k = (d.z (S.base half + j)).rows.length ∧ OwnRows h.size h' out rows' ∧ rows'.map (·.2) = rows.map (·.2) ++ (d.z (S.base half + j)).rows.take k ∧ DevAt lo F h' db (withReads d q) ∧ Chg F h h', (d.z (S.base half + j)).rows.length,
      ⟨0, rows, q, rfl, rfl, o1, by simp, x1, c1⟩, ?_⟩
    rintro _ out2 _ m2 h2 ⟨k, rows2, q2, rfl, hm2, o2, hrows2, x2, c2⟩
    have row2 := row.chg c2 hF
    have s2 := c2.size
    have hl2 : rows2.length = rows.length + min k (d.z (S.base half + j)).rows.length := by have := congrArg List.length hrows2; simpa using this
    refine IfB.dec (fun hlt2 => ?_) (fun hge2 => ?_)
    · have hk : k < (d.z (S.base half + j)).rows.length := by
        have : ((withReads d q).z (S.base half + j)).rows.length = (d.z (S.base half + j)).rows.length := rfl
        omega
      obtain ⟨ob, hob, rob⟩ := row2.only
      refine ⟨onlyB lb ob, sub_only hob, _, rfl, _, rob.get0 rfl, ?_⟩
      refine (zone_spec row2 o half hh j (by omega)).mono ?_
      rintro _ h2' ⟨rfl, hh2⟩
      obtain rfl := hh2.symm
      refine ⟨_, rfl, sub_only hob, ?_⟩
      refine (Read_spec x2 _ _).mono ?_
      have hrd : (withReads d q2).read ((S.base half + j : Nat) : Int) (k : Int) = (((d.z (S.base half + j)).rows.getD k [], 0), (withReads d q2).read1) := by
        unfold Dv.read
        rw [if_neg (not_not_intro ⟨by omega, by show _ < (d.n : Int); omega⟩), if_neg (not_not_intro ⟨by omega, by show (k : Int) < (((d.z (((S.base half + j : Nat) : Int)).toNat).rows.length : Nat) : Int); rw [Int.toNat_natCast]; omega⟩)]
        rfl
      rw [hrd]
      rintro _ h3 ⟨u, rfl, ou, lu, x3, c3⟩
      refine ⟨u, _, rfl, sub_only (by rw [c3.block lb row2.lt hF]; exact hob), ?_⟩
      intro h4
      have s3 := c3.size
      have F0 : ∀ b, h.size ≤ b → b < h2.size → h3[b]? = h2[b]? := fun b hb1 hb2 => by
        refine c3.block b hb2 ?_
        rcases Nat.eq_zero_or_pos (F b) with h0 | h0
        · exact h0
        · have := (x.dom b (by omega)).2; omega
      refine OwnRows.pushG rfl (o2.eq s3 F0) (by omega) ou.toRd (fun a ha => ⟨by have := (ou.lt ha).1; omega, (ou.lt ha).2, fun a' ha' => by have := (ou.lt ha).1; have := (o2.own.lt ha').2; omega⟩) (by omega) (by omega) fun r h5 o5 l5 k5 y5 => ?_
      have hF5 : ∀ b, F b ≠ 0 → h5[b]? = h3[b]? := fun b hb => k5.block b (x.dom b hb).2
      refine ⟨m2 - 1, by omega, k + 1, _, _, by rw [iAdd64 (by omega)]; push_cast; rfl, by omega, o5, ?_, x3.keep k5.size hF5, ?_⟩
      · rw [List.map_append, hrows2, List.take_succ_eq_append_getElem hk, List.append_assoc]
        simp [List.getD_eq_getElem?_getD, hk]
      · have c23 := c2.tr c3
        exact ⟨by have := k5.size; omega, fun b hb hFb => by rw [k5.block b hb, c23.block b hb hFb]⟩
    · have hk : k = (d.z (S.base half + j)).rows.length := by
        have : ((withReads d q).z (S.base half + j)).rows.length = (d.z (S.base half + j)).rows.length := rfl
        omega
      subst hk
      rw [List.take_length] at hrows2
      refine ⟨_, rfl, _, row2.get rfl, ?_⟩
      have hsub : S.count - j = (S.count - (j + 1)) + 1 := by omega
      rw [hsub, zRows] at hrows
      refine IfB.dec (fun hlt3 => ?_) (fun hge3 => ?_)
      · rw [if_pos (by have : ((withReads d q).z (S.base half + j)).rows.length = (d.z (S.base half + j)).rows.length := rfl; omega), List.append_nil] at hrows
        exact ⟨out2, rows2, q2, rfl, o2, by rw [hrows2, hrows], x2, c2⟩
      · rw [if_neg (by have : ((withReads d q).z (S.base half + j)).rows.length = (d.z (S.base half + j)).rows.length := rfl; omega), ← List.append_assoc, ← hrows2] at hrows
        refine ⟨m - 1, by omega, j + 1, rows2, q2, by rw [iAdd64 (by omega)]; push_cast; rfl, by omega, o2, ?_, by omega, x2, c2⟩
        exact hrows
  · have hj : S.count - j = 0 := by omega
    rw [hj] at hrows
    simp only [zRows, List.append_nil] at hrows
    exact ⟨out, rows, q, rfl, o1, hrows, x1, c1⟩
/-- is a block none of this package's? -/
def odd4 (p : List UInt8) : Bool := decide ((p.getD 0 0).toNat < 1 ∨ 4 < (p.getD 0 0).toNat)
theorem odd4_okK {p : List UInt8} : odd4 p = false ↔ okK p := by
  unfold odd4 okK
  rw [decide_eq_false_iff_not]
  show ¬ (dK p < 1 ∨ 4 < dK p) ↔ _
  omega
theorem odd4_spec {h : Hp} {s : Sl} {p : List UInt8} (r : Rd 1 h s (p.map bv)) (h0 : 0 < p.length) : HCalls Try.prog fn_seglog_strange_1 #[.slice s.base s.len s.cap] h fun r h' => r = .bool (odd4 p) ∧ h' = h := by
  apply seglog_strange_1_vc
  unfold vcseglog_strange_1
  have e : p.getD 0 0 = p[0] := by simp [List.getD_eq_getElem?_getD, h0]
  unfold odd4
  rw [e]
  refine ixB r.rd r.lenB 0 rfl h0 (IfB.dec (fun hlt => ⟨?_, rfl⟩) (fun hge => ixB r.rd r.lenB 0 rfl h0 ⟨?_, rfl⟩))
  · rw [decide_eq_true]; left; omega
  · congr 1
    rw [decide_eq_decide]; omega
theorem strange_spec {lo : Nat} {h : Hp} {s : Sl} {rows : List (Sl × List UInt8)} (o : OwnRows lo h s rows) (h64 : ∀ p ∈ rows, p.2.length = 64) (hmax : rows.length ≤ 50000) :
    HCalls Try.prog fn_seglog_strange #[.slice s.base s.len s.cap] h fun r h' => r = .bool ((rows.map (·.2)).any odd4) ∧ h' = h := by
  apply seglog_strange_vc
  unfold vcseglog_strange
  refine (rowsContains_spec (f := fn_seglog_strange_1) (p := odd4) o.own.rd o.len o.each (by omega) fun x hx c rc => odd4_spec rc (by have := h64 x hx; omega)).mono ?_
  rintro _ h1 ⟨rfl, hh⟩
  obtain rfl := hh.symm
  exact ⟨_, rfl, by rw [List.any_map]; rfl, rfl⟩

end Go.Proofs.Ytippdkokbhejmaa
