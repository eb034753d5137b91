/-
  zdev: ops.
-/
import Derived.Test.YtippdkokbhejmaaDev
namespace Go.Proofs.Ytippdkokbhejmaa
set_option linter.unusedVariables false
set_option linter.unusedSimpArgs false

theorem ZoneIn.ownRows {F : Nat → Nat} {h : Hp} {k b : Nat} {z : Zn} {bs : Sl} {rows : List (Sl × List UInt8)} (x : ZoneIn F h k b z bs rows) (hd : ∀ c, F c ≠ 0 → c < h.size) : OwnRows 0 h bs rows :=
  ⟨x.own, x.each, fun p hp a ha => ⟨Nat.zero_le _, hd _ (by rw [x.base p hp a ha]; omega), fun a' ha' e => by
    have h1 := x.base p hp a ha
    have h2 := x.arr a' ha'
    rw [e] at h1; omega⟩⟩
open Classical in
noncomputable def Dv.append (d : Dv) (i : Int) (p : List UInt8) : (Int × Int) × Dv :=
  if ¬ (0 ≤ i ∧ i < d.n) then ((0, 1), d) else
  if p.length ≠ 64 then ((0, 3), d) else
  if d.dead = true then ((0, 12), d.tick) else
  if d.size ≤ (d.z i.toNat).rows.length then ((0, 9), d.tick) else
  (((d.z i.toNat).rows.length, 0), d.tick.setZ i.toNat ⟨(d.z i.toNat).rows ++ [p], (d.z i.toNat).good⟩)
theorem begun {lo : Nat} {F : Nat → Nat} {h h' : Hp} {db : Nat} {d d' : Dv} {zs : Sl} {zb : List Nat} (x : DevIn lo F h db d zs zb) (w : d'.Wf) (x' : DevIn lo F h' db d' zs zb) (hs : h'.size = h.size) (hh : ∀ c, c ≠ db → h'[c]? = h[c]?) : DevTo lo F h h' db d' :=
  .of ⟨w, zs, zb, x'⟩ ⟨by omega, fun b _ hF => hh b fun e => by rw [e, x.role] at hF; omega⟩

theorem Append_spec {lo : Nat} {F : Nat → Nat} {h : Hp} {db : Nat} {d : Dv} (x : DevAt lo F h db d) (hlo : lo ≤ h.size) (i : Int) {p : Sl} {l : List UInt8} (rp : Rd 1 h p (l.map bv)) (hp : ∀ a, p.base = some a → F a.block = 0) :
    HCalls Try.prog fn_zdev_Dev_Append #[dp db, .int .i64 i, .slice p.base p.len p.cap] h fun r h' =>
      r = .tuple #[.int .i64 (d.append i l).1.1, .int .i64 (d.append i l).1.2] ∧ DevTo lo F h h' db (d.append i l).2 := by
  obtain ⟨w, zs, zb, x⟩ := x
  apply zdev_Dev_Append_vc
  unfold vczdev_Dev_Append Dv.append
  have lp := rp.lenB
  have same : DevTo lo F h h db d := .of ⟨w, zs, zb, x⟩ (.refl _ _)
  refine (at_spec w x i).mono ?_
  rintro _ h ⟨rfl, ⟨hn, rfl⟩ | ⟨k, hk, rfl, hkn, rfl⟩⟩
  · rw [if_pos hn]; exact ⟨_, rfl, .yes rfl ⟨rfl, same⟩⟩
  rw [if_neg (by omega)]
  refine ⟨_, rfl, .no rfl (IfB.ne (fun h64 => ?_) (fun h64 => ?_))⟩
  · rw [if_pos (by omega)]; exact ⟨rfl, same⟩
  have hl64 : l.length = 64 := by omega
  rw [if_neg (by omega)]
  refine (begin_spec w x).mono ?_
  rintro _ h1 ⟨rfl, x1, s1, o1⟩
  refine ⟨_, rfl, IfB.intro (fun hd => ?_) (fun hd => ?_)⟩
  · rw [if_pos (by simpa using hd)]; exact ⟨rfl, begun x w.tick x1 s1 o1⟩
  rw [if_neg (by simpa using hd)]
  obtain ⟨bs, rows, y⟩ := x1.zone k hk
  have hyl := y.slen
  have hz : (d.tick.z k) = d.z k := rfl
  rw [hz] at y hyl
  have hwz := w.zone k
  refine ⟨_, rfl, bs, y.row.get0 rfl, _, rfl, _, x1.row.get rfl, IfB.dec (fun hfull => ?_) (fun hfull => ?_)⟩
  · rw [Int.toNat_natCast, if_pos (by have : (d.tick.size : Int) = d.size := rfl; omega)]; exact ⟨rfl, begun x w.tick x1 s1 o1⟩
  rw [Int.toNat_natCast]
  have hroom : (d.z k).rows.length < d.size := by have : (d.tick.size : Int) = d.size := rfl; omega
  rw [if_neg (by omega)]
  have hsz := w.size
  obtain ⟨ob, hob, rob⟩ := y.row.only
  have hrole := y.role
  have rp1 : Rd 1 h1 p (l.map bv) := rp.eq fun a ha => o1 _ fun e => by have := hp a ha; rw [e, x.role] at this; omega
  refine ⟨onlyB zb[k] ob, sub_only hob, _, rfl, bs, rob.get0 rfl, ?_⟩
  refine (slClone_spec rp1 (by omega)).mono ?_
  rintro _ h2 ⟨u, rfl, ou, lu, e2⟩
  have hzlt : zb[k] < h1.size := y.row.lt
  refine ⟨_, rfl, sub_only (by rw [e2.block _ hzlt, hob]), ?_⟩
  intro h3
  have e3 : Ext h2 h3 := alc_ext _ _ _
  refine ⟨sub_only (by rw [e3.block _ (Nat.lt_of_lt_of_le hzlt e2.size), e2.block _ hzlt, hob]), ?_⟩
  have hd1 : ∀ c, F c ≠ 0 → c < h1.size := fun c hc => (x1.dom c hc).2
  refine OwnRows.push (lo := 0) rfl (y.ownRows hd1) (Nat.zero_le _) e2 ou (by omega) (fun r h4 or lr k4 x4 b4 => ?_) (by omega)
  have hnb : ∀ a, bs.base = some a → zb[k] ≠ a.block := fun a ha e => by have := y.arr a ha; rw [← e, hrole] at this; omega
  have z4 : h4[zb[k]]? = h1[zb[k]]? := x4 _ hzlt hnb
  refine ⟨sub_only (by rw [z4, hob]), _, rfl, ?_⟩
  obtain ⟨ok5, r5, x5, s5⟩ := (y.row.eq z4).set0 (by simp [znV]) (.slice r.base r.len r.cap)
  refine ⟨ok5, ?_⟩
  generalize hset h4 ⟨zb[k], 0, none⟩ (.slice r.base r.len r.cap) = h5 at *
  have r5 : Row h5 zb[k] (znV r (d.z k).good) := r5
  refine ⟨_, rfl, r, r5.get0 rfl, ?_⟩
  have e1r : iSub .i64 (r.len : Int) 1 = ((d.z k).rows.length : Int) := by rw [iSub64 (by omega)]; omega
  refine ⟨by rw [e1r], ?_⟩
  -- roles
  obtain ⟨F1, f1, f2, f3, f4⟩ := addF (n := h1.size) hd1 u.base 3 (by omega) (fun a ha => .inl (ou.lt ha).1)
  have hd2 : ∀ c, F1 c ≠ 0 → c < h2.size := fun c hc => by
    rcases f3 c hc with h | ⟨a, ha, rfl⟩
    · have := hd1 c h; have := e2.size; omega
    · exact (ou.lt ha).2
  obtain ⟨F2, g1, g2, g3, g4⟩ := addF (n := h2.size) hd2 r.base (5 + 2 * k) (by omega) (fun a ha => by
    rcases b4 a ha with h | h
    · exact .inr (by rw [f1 _ (hd1 _ (by rw [y.arr a h]; omega)), y.arr a h])
    · exact .inl h)
  have hF : ∀ c, F c ≠ 0 → F2 c = F c := fun c hc => by rw [g4 c (by rw [f4 c hc]; exact hc), f4 c hc]
  have hFl : ∀ c, c < h1.size → F2 c = F c := fun c hc => by rw [g1 c (by have := e2.size; omega), f1 c hc]
  have s45 : h1.size ≤ h4.size := k4.size
  have hrb : ∀ a, r.base = some a → a.block < h4.size := fun a ha => (or.own.lt ha).2
  refine ⟨F2, ⟨w.tick.setZ k ⟨?_, ?_, ?_⟩, zs, zb, x1.zput hk hF ?_ ⟨r, rows ++ [(u, l)], ?_, r5, ?_, g2, ?_, ?_, ?_⟩ ?_⟩, fun b hb => hFl b (by omega), ⟨by omega, fun b hb hFb => ?_⟩⟩
  · show ((d.z k).rows ++ [l]).length ≤ d.size; simp; omega
  · show (d.z k).good ≤ ((d.z k).rows ++ [l]).length; simp; have := hwz.good; omega
  · intro q hq
    rcases List.mem_append.1 hq with hq | hq
    · exact hwz.each q hq
    · simp only [List.mem_cons, List.not_mem_nil, or_false] at hq; subst hq; exact hl64
  · intro b hb
    rcases g3 b hb with h | ⟨a, ha, rfl⟩
    · rcases f3 b h with h | ⟨a, ha, rfl⟩
      · have := x1.dom b h; exact ⟨this.1, by omega⟩
      · have h1 := ou.lt ha
        have h2 := or.base (u, l) (by simp) a ha
        exact ⟨by omega, by omega⟩
    · have := hrb a ha
      rcases b4 a ha with h | h
      · have := x1.dom _ (by rw [y.arr a h]; omega); exact ⟨this.1, by omega⟩
      · have := e2.size; exact ⟨by omega, by omega⟩
  · rw [hF _ (by rw [hrole]; omega), hrole]
  · refine or.own.eq fun a ha => x5 _ fun e => ?_
    have h1 := g2 a ha
    rw [e, hF _ (by rw [hrole]; omega), hrole] at h1; omega
  · rw [List.map_append, ← y.eq]; rfl
  · intro q hq
    refine (or.each q hq).eq fun a ha => x5 _ fun e => ?_
    rcases List.mem_append.1 hq with hq | hq
    · have := y.base q hq a ha; rw [e, hrole] at this; omega
    · simp only [List.mem_cons, List.not_mem_nil, or_false] at hq; subst hq
      have := (ou.lt ha).1; omega
  · intro q hq a ha
    rcases List.mem_append.1 hq with hq | hq
    · rw [hF _ (by rw [y.base q hq a ha]; omega), y.base q hq a ha]
    · simp only [List.mem_cons, List.not_mem_nil, or_false] at hq; subst hq
      rw [g4 _ (by rw [f2 a ha]; omega), f2 a ha]
  · intro c hc h1 h2
    rw [x5 c fun e => h1 (by rw [e, hrole]), x4 c (hd1 c hc) fun a ha e => h2 (by rw [e, y.arr a ha])]
  · have hb1 : b < h1.size := by omega
    rw [x5 b fun e => by rw [e, hrole] at hFb; omega, x4 b hb1 fun a ha e => by rw [e, y.arr a ha] at hFb; omega, o1 b fun e => by rw [e, x.role] at hFb; omega]

/-- a zone's struct is written anew. -/
theorem DevIn.zset {lo : Nat} {F : Nat → Nat} {h : Hp} {db : Nat} {d : Dv} {zs : Sl} {zb : List Nat} (x : DevIn lo F h db d zs zb) {k : Nat} (hk : k < zb.length) {z : Zn} {h' : Hp} {bs : Sl} {rows : List (Sl × List UInt8)}
    (hr : Row h' zb[k] (znV bs z.good)) (hs : h'.size = h.size) (hh : ∀ c, c ≠ zb[k] → h'[c]? = h[c]?) (hb : Own 0 1 h bs (rows.map fun p => slV p.1)) (harr : ∀ a, bs.base = some a → F a.block = 5 + 2 * k) (heq : z.rows = rows.map (·.2))
    (each : ∀ p ∈ rows, Rd 1 h p.1 (p.2.map bv)) (base : ∀ p ∈ rows, ∀ a, p.1.base = some a → F a.block = 3) : DevIn lo F h' db (d.setZ k z) zs zb := by
  obtain ⟨_, _, y⟩ := x.zone k hk
  have hrole := y.role
  have ne : ∀ c, F c ≠ 4 + 2 * k → c ≠ zb[k] := fun c hc e => hc (by rw [e, hrole])
  exact x.zput hk (fun _ _ => rfl) (fun b hb => by rw [hs]; exact x.dom b hb) ⟨bs, rows, hrole, hr, hb.eq fun a ha => hh _ (ne _ (by rw [harr a ha]; omega)), harr, heq, fun p hp => (each p hp).eq fun a ha => hh _ (ne _ (by rw [base p hp a ha]; omega)), base⟩ fun c _ h1 _ => hh c (ne c h1)
open Classical in
noncomputable def Dv.reset (d : Dv) (i : Int) : Int × Dv :=
  if ¬ (0 ≤ i ∧ i < d.n) then (1, d) else if d.dead = true then (12, d.tick) else (0, d.tick.setZ i.toNat ⟨[], 0⟩)
theorem Reset_spec {lo : Nat} {F : Nat → Nat} {h : Hp} {db : Nat} {d : Dv} (x : DevAt lo F h db d) (i : Int) :
    HCalls Try.prog fn_zdev_Dev_Reset #[dp db, .int .i64 i] h fun r h' => r = .int .i64 (d.reset i).1 ∧ DevTo lo F h h' db (d.reset i).2 := by
  obtain ⟨w, zs, zb, x⟩ := x
  apply zdev_Dev_Reset_vc
  unfold vczdev_Dev_Reset Dv.reset
  have same : DevTo lo F h h db d := .of ⟨w, zs, zb, x⟩ (.refl _ _)
  refine (at_spec w x i).mono ?_
  rintro _ h ⟨rfl, ⟨hn, rfl⟩ | ⟨k, hk, rfl, hkn, rfl⟩⟩
  · rw [if_pos hn]; exact ⟨_, rfl, .yes rfl ⟨rfl, same⟩⟩
  rw [if_neg (by omega)]
  refine ⟨_, rfl, .no rfl ?_⟩
  refine (begin_spec w x).mono ?_
  rintro _ h1 ⟨rfl, x1, s1, o1⟩
  refine ⟨_, rfl, IfB.intro (fun hd => ?_) (fun hd => ?_)⟩
  · rw [if_pos (by simpa using hd)]; exact ⟨rfl, begun x w.tick x1 s1 o1⟩
  rw [if_neg (by simpa using hd), Int.toNat_natCast]
  obtain ⟨bs, rows, y⟩ := x1.zone k hk
  have hrole := y.role
  refine ⟨_, rfl, y.row.put (vs := znV Sl.nil 0) rfl (by simp [znV, cellOk]) fun h2 r2 s2 o2 => ⟨rfl, ?_⟩⟩
  refine .of ⟨w.tick.setZ k ⟨Nat.zero_le _, Nat.zero_le _, fun p hp => by simp at hp⟩, zs, zb, x1.zset hk r2 s2 o2 (rows := []) (Own.nil _ _ _) (fun a ha => by cases ha) rfl (fun p hp => by simp at hp) (fun p hp => by simp at hp)⟩ ⟨by omega, fun b hb hF => ?_⟩
  rw [o2 b fun e => by rw [e, hrole] at hF; omega, o1 b fun e => by rw [e, x.role] at hF; omega]

def Dv.flushed (d : Dv) : Dv := { d with zs := d.zs.map fun z => ⟨z.rows, z.rows.length⟩ }
open Classical in
noncomputable def Dv.flush (d : Dv) : Int × Dv := if d.dead = true then (12, d.tick) else (0, d.tick.flushed)
theorem Dv.Wf.flushed {d : Dv} (w : d.Wf) : d.flushed.Wf :=
  ⟨by simp [Dv.flushed, w.n], w.zones, w.size, w.left, fun z hz => by
    obtain ⟨y, hy, rfl⟩ := List.mem_map.1 hz
    have := w.each y hy
    exact ⟨this.rows, Nat.le_refl _, this.each⟩⟩
/-- so many zones are flushed. -/
def Dv.flushN (d : Dv) (j : Nat) : Dv := { d with zs := (d.zs.take j).map (fun z => ⟨z.rows, z.rows.length⟩) ++ d.zs.drop j }
theorem Dv.flushN_succ (d : Dv) {j : Nat} (hj : j < d.zs.length) : d.flushN (j + 1) = (d.flushN j).setZ j ⟨(d.z j).rows, (d.z j).rows.length⟩ ∧ (d.flushN j).z j = d.z j := by
  have hl : ((d.zs.take j).map (fun z : Zn => (⟨z.rows, z.rows.length⟩ : Zn))).length = j := by simp; omega
  have hz := d.z_get hj
  constructor
  · unfold Dv.flushN Dv.setZ
    simp only
    rw [List.set_append_right _ _ (by omega), hl, Nat.sub_self, List.drop_eq_getElem_cons hj, List.set_cons_zero, List.take_succ_eq_append_getElem hj, List.map_append, List.append_assoc, hz]
    rfl
  · unfold Dv.z Dv.flushN
    simp only [List.getD_eq_getElem?_getD]
    rw [List.getElem?_append_right (by omega), hl, Nat.sub_self, List.getElem?_drop, Nat.add_zero]
theorem Flush_spec {lo : Nat} {F : Nat → Nat} {h : Hp} {db : Nat} {d : Dv} (x : DevAt lo F h db d) :
    HCalls Try.prog fn_zdev_Dev_Flush #[dp db] h fun r h' => r = .int .i64 d.flush.1 ∧ DevTo lo F h h' db d.flush.2 := by
  obtain ⟨w, zs, zb, x⟩ := x
  apply zdev_Dev_Flush_vc
  unfold vczdev_Dev_Flush Dv.flush
  refine (goneA_spec w x).mono ?_
  rintro _ h ⟨rfl, rfl⟩
  refine ⟨_, rfl, .ff ?_⟩
  refine (begin_spec w x).mono ?_
  rintro _ h1 ⟨rfl, x1, s1, o1⟩
  refine ⟨_, rfl, IfB.intro (fun hd => ?_) (fun hd => ?_)⟩
  · rw [if_pos (by simpa using hd)]; exact ⟨rfl, begun x w.tick x1 s1 o1⟩
  rw [if_neg (by simpa using hd)]
  have hzl : zs.len = d.zs.length := by have := x.own.len; have := x.len; simp at *; omega
  have hzn := x.len
  have hn := w.n
  have hz64 := w.zones
  refine ⟨_, rfl, zs, x1.row.get rfl, ?_⟩
  refine ⟨fun i m h' => ∃ j : Nat, i = j ∧ m + j = d.zs.length ∧ DevIn lo F h' db (d.tick.flushN j) zs zb ∧ h'.size = h.size ∧ ∀ b, F b = 0 → h'[b]? = h[b]?, d.zs.length, ⟨0, rfl, rfl, ?_, s1, fun b hF => o1 b fun e => by rw [e, x.role] at hF; omega⟩, ?_⟩
  · have : d.tick.flushN 0 = d.tick := by simp [Dv.flushN]
    rw [this]; exact x1
  rintro _ _ m h2 ⟨j, rfl, hm, x2, s2, o2⟩
  refine IfB.dec (fun hlt => ?_) (fun hge => ?_)
  · have hj : j < d.zs.length := by omega
    have hk : j < zb.length := by omega
    refine ix1 x2.own.rd (by simp; omega) j rfl (by simpa using hk) fun a _ hc => ⟨some ⟨zb[j], 0, none⟩, by simpa [pv] using hc, ?_⟩
    obtain ⟨bs, rows, y⟩ := x2.zone j hk
    obtain ⟨e1, e2⟩ := d.tick.flushN_succ hj
    have hzj : (d.tick.flushN j).z j = d.z j := e2
    rw [hzj] at y
    have hrole := y.role
    obtain ⟨ok, r3, o3, s3⟩ := y.row.set (i := 1) (by simp [znV]) (.int .i64 (bs.len : Int))
    refine ⟨_, rfl, bs, y.row.get0 rfl, _, rfl, ok, m - 1, by omega, j + 1, by rw [iAdd64 (by omega)]; push_cast; rfl, by omega, ?_, by rw [s3, s2], fun b hF => by rw [o3 b fun e => by rw [e, hrole] at hF; omega, o2 b hF]⟩
    rw [e1]
    refine x2.zset hk (z := ⟨(d.z j).rows, (d.z j).rows.length⟩) (bs := bs) (rows := rows) ?_ s3 o3 y.own y.arr y.eq y.each y.base
    have : znV bs (d.z j).rows.length = (znV bs (d.z j).good).set 1 (.int .i64 (bs.len : Int)) := by simp [znV, y.slen.1]
    rw [this]; exact r3
  · have hj : j = d.zs.length := by omega
    subst hj
    have : d.tick.flushN d.zs.length = d.tick.flushed := by
      unfold Dv.flushN Dv.flushed
      have h1 : (d.tick.zs.take d.zs.length) = d.tick.zs := List.take_of_length_le (Nat.le_refl _)
      have h2 : (d.tick.zs.drop d.zs.length) = [] := List.drop_eq_nil_of_le (Nat.le_refl _)
      rw [h1, h2, List.append_nil]
    rw [this] at x2
    exact ⟨rfl, .of ⟨w.tick.flushed, zs, zb, x2⟩ ⟨by omega, fun b _ hF => o2 b hF⟩⟩

def Dv.read1 (d : Dv) : Dv := { d with reads := iAdd .i64 d.reads 1 }
open Classical in
noncomputable def Dv.read (d : Dv) (i a : Int) : (List UInt8 × Int) × Dv :=
  if ¬ (0 ≤ i ∧ i < d.n) then (([], 1), d) else if ¬ (0 ≤ a ∧ a < (d.z i.toNat).rows.length) then (([], 14), d) else (((d.z i.toNat).rows.getD a.toNat [], 0), d.read1)
theorem Read_spec {lo : Nat} {F : Nat → Nat} {h : Hp} {db : Nat} {d : Dv} (x : DevAt lo F h db d) (i a : Int) :
    HCalls Try.prog fn_zdev_Dev_Read #[dp db, .int .i64 i, .int .i64 a] h fun r h' => ∃ s : Sl, r = .tuple #[.slice s.base s.len s.cap, .int .i64 (d.read i a).1.2] ∧ Own h.size 1 h' s ((d.read i a).1.1.map bv) ∧ s.len = (d.read i a).1.1.length ∧
      DevAt lo F h' db (d.read i a).2 ∧ Chg F h h' := by
  obtain ⟨w, zs, zb, x⟩ := x
  apply zdev_Dev_Read_vc
  unfold vczdev_Dev_Read Dv.read
  have hr0 : ∀ {c : Int} {h : Hp}, DevIn lo F h db d zs zb → ∃ s : Sl, Value.tuple #[.slice Sl.nil.base Sl.nil.len Sl.nil.cap, .int .i64 c] = .tuple #[.slice s.base s.len s.cap, .int .i64 c] ∧ Own h.size 1 h s (([] : List UInt8).map bv) ∧ s.len = ([] : List UInt8).length ∧ DevAt lo F h db d ∧ Chg F h h := fun x => ⟨Sl.nil, rfl, Own.nil _ _ _, rfl, ⟨w, zs, zb, x⟩, .refl _ _⟩
  refine (at_spec w x i).mono ?_
  rintro _ h ⟨rfl, ⟨hn, rfl⟩ | ⟨k, hk, rfl, hkn, rfl⟩⟩
  · rw [if_pos hn]; exact ⟨_, rfl, .yes rfl (hr0 x)⟩
  rw [if_neg (by omega), Int.toNat_natCast]
  obtain ⟨bs, rows, y⟩ := x.zone k hk
  have hyl := y.slen
  refine ⟨_, rfl, .no rfl (IfB.dec (fun hneg => ?_) (fun hneg => ⟨_, rfl, bs, y.row.get0 rfl, IfB.dec (fun hbig => ?_) (fun hbig => ?_)⟩))⟩
  · rw [if_pos (by omega)]; exact hr0 x
  · rw [if_pos (by omega)]; exact hr0 x
  rw [if_neg (by omega)]
  obtain ⟨q, rfl⟩ : ∃ q : Nat, a = q := ⟨a.toNat, by omega⟩
  rw [Int.toNat_natCast]
  obtain ⟨ok, r1, o1, s1⟩ := x.row.set (i := 4) (by simp [dvV]) (.int .i64 (iAdd .i64 d.reads 1))
  refine ⟨_, rfl, _, x.row.get rfl, _, rfl, ok, ?_⟩
  generalize hset h ((⟨db, 0, none⟩ : Addr).add 4) (.int .i64 (iAdd .i64 d.reads 1)) = h1 at *
  have x1 : DevIn lo F h1 db d.read1 zs zb := x.put (d' := d.read1) rfl r1 s1 o1
  have w1 : d.read1.Wf := ⟨w.n, w.zones, w.size, w.left, w.each⟩
  obtain ⟨bs', rows', y1⟩ := x1.zone k hk
  have hyl1 := y1.slen
  have hz1 : (d.read1.z k) = d.z k := rfl
  rw [hz1] at y1 hyl1
  refine ⟨_, rfl, bs', y1.row.get0 rfl, ?_⟩
  refine ixS y1.own.rd hyl1.2 q rfl (by omega) ?_
  have hq : q < rows'.length := by omega
  have hg : (d.z k).rows.getD q [] = rows'[q].2 := by rw [y1.eq]; simp [hq]
  rw [hg]
  have hmem : rows'[q] ∈ rows' := List.getElem_mem hq
  have hl64 : (rows'[q]).2.length = 64 := (w.zone k).each _ (by rw [y1.eq]; exact List.mem_map_of_mem hmem)
  refine (slClone_spec (y1.each _ hmem) (by omega)).mono ?_
  rintro _ h2 ⟨u, rfl, ou, lu, e2⟩
  refine ⟨u, rfl, u, rfl, by rw [← s1]; exact ou, lu, DevAt.ext ⟨w1, zs, zb, x1⟩ e2, ⟨by have := e2.size; omega, fun b hb hF => ?_⟩⟩
  rw [e2.block b (by omega), o1 b fun e => by rw [e, x.role] at hF; omega]

def Dv.cutAt (d : Dv) (n : Int) : Dv := { d with cut := true, left := (max n 0).toNat }
theorem Cut_spec {lo : Nat} {F : Nat → Nat} {h : Hp} {db : Nat} {d : Dv} (x : DevAt lo F h db d) {n : Int} (hn : n < 9223372036854775808) :
    HCalls Try.prog fn_zdev_Dev_Cut #[dp db, .int .i64 n] h fun r h' => r = .tuple #[] ∧ DevAt lo F h' db (d.cutAt n) ∧ Chg F h h' := by
  obtain ⟨w, zs, zb, x⟩ := x
  apply zdev_Dev_Cut_vc
  unfold vczdev_Dev_Cut
  refine (goneA_spec w x).mono ?_
  rintro _ h ⟨rfl, rfl⟩
  obtain ⟨ok1, r1, o1, s1⟩ := x.row.set (i := 5) (by simp [dvV]) (.bool true)
  refine ⟨_, rfl, .yes rfl ⟨_, rfl, ok1, ?_⟩⟩
  generalize hset h ((⟨db, 0, none⟩ : Addr).add 5) (.bool true) = h1 at *
  obtain ⟨ok2, r2, o2, s2⟩ := r1.set (i := 6) (by simp [dvV]) (.int .i64 (if n < (0 : Int) then (0 : Int) else n))
  refine ⟨_, rfl, ok2, rfl, ⟨⟨w.n, w.zones, w.size, ?_, w.each⟩, zs, zb, x.put (d' := d.cutAt n) rfl ?_ (by rw [s2, s1]) fun c hc => by rw [o2 c hc, o1 c hc]⟩, ⟨by rw [s2, s1]; exact Nat.le_refl _, fun b hb hF => ?_⟩⟩
  · show (max n 0).toNat < _; omega
  · have e : (if n < (0 : Int) then (0 : Int) else n) = (((max n 0).toNat : Nat) : Int) := by split <;> omega
    rw [e] at r2 ⊢
    exact r2
  · have hb : b ≠ db := fun e => by rw [e, x.role] at hF; omega
    rw [o2 b hb, o1 b hb]
/-- no device. -/
theorem gone_none (h : Hp) : HCalls Try.prog fn_zdev_Dev_gone #[.pointer none] h fun r h' => r = .bool true ∧ h' = h := by
  apply zdev_Dev_gone_vc
  unfold vczdev_Dev_gone
  exact .yes rfl ⟨rfl, rfl⟩
theorem Row.get2 {h : Hp} {b : Nat} {x y : Int} (r : Row h b [.int .i64 x, .int .i64 y]) {K : Int → Int → Prop} (hK : K x y) :
    ∃ c : Int, ∃ c1 : Int, hcell h ⟨b, 0, none⟩ = some (.int .i64 c) ∧ hcell h ((⟨b, 0, none⟩ : Addr).add 1) = some (.int .i64 c1) ∧ K c c1 := ⟨x, y, r.get0 rfl, r.get rfl, hK⟩
theorem Geometry_spec {lo : Nat} {F : Nat → Nat} {h : Hp} {db : Nat} {d : Dv} (x : DevAt lo F h db d) :
    HCalls Try.prog fn_zdev_Dev_Geometry #[dp db] h fun r h' => r = .agg #[.int .i64 (d.n : Int), .int .i64 (d.size : Int)] ∧ Ext h h' := by
  obtain ⟨w, zs, zb, x⟩ := x
  apply zdev_Dev_Geometry_vc
  unfold vczdev_Dev_Geometry
  intro h1
  have e1 : Ext h h1 := alc_ext _ _ _
  have r1 : Row h1 h.size [.int .i64 (0 : Int), .int .i64 (0 : Int)] := Row.alc _ _ _
  have x1 := x.ext e1
  refine (goneA_spec w x1).mono ?_
  rintro _ h2 ⟨rfl, rfl⟩
  refine ⟨_, rfl, .ff ⟨_, rfl, _, _, x1.row.get0 rfl, x1.row.get rfl, ?_⟩⟩
  refine r1.put (vs := [.int .i64 (d.n : Int), .int .i64 (d.size : Int)]) rfl (by simp [cellOk]) fun h3 r3 s3 o3 => r3.get2 ⟨rfl, ?_⟩
  exact ⟨by rw [s3]; exact e1.size, fun b hb => by rw [o3 b (by omega), e1.block b hb]⟩
theorem Geometry_none (h : Hp) : HCalls Try.prog fn_zdev_Dev_Geometry #[.pointer none] h fun r h' => r = .agg #[.int .i64 (0 : Int), .int .i64 (0 : Int)] ∧ Ext h h' := by
  apply zdev_Dev_Geometry_vc
  unfold vczdev_Dev_Geometry
  intro h1
  have e1 : Ext h h1 := alc_ext _ _ _
  have r1 : Row h1 h.size [.int .i64 (0 : Int), .int .i64 (0 : Int)] := Row.alc _ _ _
  refine (gone_none h1).mono ?_
  rintro _ _ ⟨rfl, rfl⟩
  refine ⟨_, rfl, .tt ?_⟩
  refine r1.put (vs := [.int .i64 (0 : Int), .int .i64 (0 : Int)]) rfl (by simp [cellOk]) fun h3 r3 s3 o3 => r3.get2 ⟨rfl, ?_⟩
  exact ⟨by rw [s3]; exact e1.size, fun b hb => by rw [o3 b (by omega), e1.block b hb]⟩

end Go.Proofs.Ytippdkokbhejmaa
