/-
  Package zdev (chapter 9): a device as plain data, how it stands in memory, and what its plain questions answer.
-/
import Derived.Test.YtippdkokbhejmaaOwnR
namespace Go.Proofs.Ytippdkokbhejmaa
set_option linter.unusedVariables false
set_option linter.unusedSimpArgs false

/-- a zone: its blocks, how many of them are for good. -/
structure Zn where
  rows : List (List UInt8)
  good : Nat
/-- a device. -/
structure Dv where
  n : Nat
  size : Nat
  zs : List Zn
  ops : Int
  reads : Int
  cut : Bool
  left : Nat
  off : Bool
structure Zn.Wf (size : Nat) (z : Zn) : Prop where
  rows : z.rows.length ≤ size
  good : z.good ≤ z.rows.length
  each : ∀ p ∈ z.rows, p.length = 64
structure Dv.Wf (d : Dv) : Prop where
  n : d.n = d.zs.length
  zones : 8 ≤ d.n ∧ d.n ≤ 64
  size : 96 ≤ d.size ∧ d.size ≤ 192
  left : d.left < 9223372036854775808
  each : ∀ z ∈ d.zs, z.Wf d.size
def Dv.z (d : Dv) (k : Nat) : Zn := d.zs.getD k ⟨[], 0⟩
def Dv.setZ (d : Dv) (k : Nat) (z : Zn) : Dv := { d with zs := d.zs.set k z }
theorem Dv.z_get (d : Dv) {k : Nat} (hk : k < d.zs.length) : d.z k = d.zs[k] := by simp [Dv.z, hk]
theorem Dv.Wf.zone {d : Dv} (w : d.Wf) (k : Nat) : (d.z k).Wf d.size := by
  by_cases hk : k < d.zs.length
  · rw [d.z_get hk]; exact w.each _ (List.getElem_mem hk)
  · have : d.z k = ⟨[], 0⟩ := by unfold Dv.z; rw [List.getD_eq_getElem?_getD, List.getElem?_eq_none (by omega)]; rfl
    rw [this]; exact ⟨Nat.zero_le _, Nat.zero_le _, fun p hp => by simp at hp⟩
theorem Dv.z_set (d : Dv) {k j : Nat} (hk : k < d.zs.length) (z : Zn) : (d.setZ k z).z j = if j = k then z else d.z j := by
  simp only [Dv.z, Dv.setZ, List.getD_eq_getElem?_getD, List.getElem?_set]
  by_cases e : k = j
  · subst e; simp [hk]
  · rw [if_neg e, if_neg (Ne.symm e)]
theorem Dv.Wf.setZ {d : Dv} (w : d.Wf) (k : Nat) {z : Zn} (hz : z.Wf d.size) : (d.setZ k z).Wf :=
  ⟨by simp [Dv.setZ, w.n], w.zones, w.size, w.left, fun y hy => by
    rcases List.mem_or_eq_of_mem_set hy with h | h
    · exact w.each _ h
    · subst h; exact hz⟩

/-! ### In memory -/
def pv (b : Nat) : Value := .pointer (some ⟨b, 0, none⟩)
def dvV (d : Dv) (zs : Sl) : List Value := [.int .i64 (d.n : Int), .int .i64 (d.size : Int), .slice zs.base zs.len zs.cap, .int .i64 d.ops, .int .i64 d.reads, .bool d.cut, .int .i64 (d.left : Int), .bool d.off]
def znV (bs : Sl) (g : Nat) : List Value := [.slice bs.base bs.len bs.cap, .int .i64 (g : Int)]
/-- roles: 1 the device, 2 the row of zones, 3 bytes, 4 + 2k a zone, 5 + 2k its row of blocks. -/
structure ZoneIn (F : Nat → Nat) (h : Hp) (k b : Nat) (z : Zn) (bs : Sl) (rows : List (Sl × List UInt8)) : Prop where
  role : F b = 4 + 2 * k
  row : Row h b (znV bs z.good)
  own : Own 0 1 h bs (rows.map fun p => slV p.1)
  arr : ∀ a, bs.base = some a → F a.block = 5 + 2 * k
  eq : z.rows = rows.map (·.2)
  each : ∀ p ∈ rows, Rd 1 h p.1 (p.2.map bv)
  base : ∀ p ∈ rows, ∀ a, p.1.base = some a → F a.block = 3
def ZoneAt (F : Nat → Nat) (h : Hp) (k b : Nat) (z : Zn) : Prop := ∃ bs rows, ZoneIn F h k b z bs rows
structure DevIn (lo : Nat) (F : Nat → Nat) (h : Hp) (db : Nat) (d : Dv) (zs : Sl) (zb : List Nat) : Prop where
  dom : ∀ b, F b ≠ 0 → lo ≤ b ∧ b < h.size
  role : F db = 1
  row : Row h db (dvV d zs)
  own : Own 0 1 h zs (zb.map pv)
  arr : ∀ a, zs.base = some a → F a.block = 2
  len : zb.length = d.zs.length
  zone : ∀ k (hk : k < zb.length), ZoneAt F h k zb[k] (d.z k)
/-- a device stands there. -/
def DevAt (lo : Nat) (F : Nat → Nat) (h : Hp) (db : Nat) (d : Dv) : Prop := d.Wf ∧ ∃ zs zb, DevIn lo F h db d zs zb
/-- what an op makes of it. -/
def DevTo (lo : Nat) (F : Nat → Nat) (h h' : Hp) (db : Nat) (d : Dv) : Prop := ∃ F', DevAt lo F' h' db d ∧ (∀ b, b < h.size → F' b = F b) ∧ Chg F h h'

theorem ZoneIn.slen {F : Nat → Nat} {h : Hp} {k b : Nat} {z : Zn} {bs : Sl} {rows : List (Sl × List UInt8)} (x : ZoneIn F h k b z bs rows) : bs.len = z.rows.length ∧ bs.len = rows.length := by
  have := x.own.len
  rw [x.eq]; simp at this ⊢; omega
/-- a zone whose blocks are as they were. -/
theorem ZoneAt.move {F F' : Nat → Nat} {h h' : Hp} {k b : Nat} {z : Zn} (x : ZoneAt F h k b z) (hF : ∀ c, F c ≠ 0 → F' c = F c) (hh : ∀ c, F c = 4 + 2 * k ∨ F c = 5 + 2 * k ∨ F c = 3 → h'[c]? = h[c]?) : ZoneAt F' h' k b z := by
  obtain ⟨bs, rows, x⟩ := x
  refine ⟨bs, rows, by rw [hF _ (by rw [x.role]; omega), x.role], x.row.eq (hh _ (.inl x.role)), x.own.eq fun a ha => hh _ (.inr (.inl (x.arr a ha))), fun a ha => by rw [hF _ (by rw [x.arr a ha]; omega), x.arr a ha], x.eq,
    fun p hp => (x.each p hp).eq fun a ha => hh _ (.inr (.inr (x.base p hp a ha))), fun p hp a ha => by rw [hF _ (by rw [x.base p hp a ha]; omega), x.base p hp a ha]⟩
/-- the device, whose blocks are as they were. -/
theorem DevIn.move {lo : Nat} {F F' : Nat → Nat} {h h' : Hp} {db : Nat} {d : Dv} {zs : Sl} {zb : List Nat} (x : DevIn lo F h db d zs zb) (hF : ∀ c, F c ≠ 0 → F' c = F c) (hd : ∀ b, F' b ≠ 0 → lo ≤ b ∧ b < h'.size) (hh : ∀ c, F c ≠ 0 → h'[c]? = h[c]?) : DevIn lo F' h' db d zs zb :=
  ⟨hd, by rw [hF _ (by rw [x.role]; omega), x.role], x.row.eq (hh _ (by rw [x.role]; omega)), x.own.eq fun a ha => hh _ (by rw [x.arr a ha]; omega), fun a ha => by rw [hF _ (by rw [x.arr a ha]; omega), x.arr a ha], x.len,
    fun k hk => (x.zone k hk).move hF fun c hc => hh c (by omega)⟩
theorem DevIn.ext {lo : Nat} {F : Nat → Nat} {h h' : Hp} {db : Nat} {d : Dv} {zs : Sl} {zb : List Nat} (x : DevIn lo F h db d zs zb) (e : Ext h h') : DevIn lo F h' db d zs zb :=
  x.move (fun _ _ => rfl) (fun b hb => ⟨(x.dom b hb).1, Nat.lt_of_lt_of_le (x.dom b hb).2 e.size⟩) fun c hc => e.block c (x.dom c hc).2
theorem DevAt.ext {lo : Nat} {F : Nat → Nat} {h h' : Hp} {db : Nat} {d : Dv} (x : DevAt lo F h db d) (e : Ext h h') : DevAt lo F h' db d := by
  obtain ⟨w, zs, zb, x⟩ := x; exact ⟨w, zs, zb, x.ext e⟩
/-- other blocks have changed. -/
theorem DevAt.keep {lo : Nat} {F : Nat → Nat} {h h' : Hp} {db : Nat} {d : Dv} (x : DevAt lo F h db d) (hs : h.size ≤ h'.size) (hh : ∀ c, F c ≠ 0 → h'[c]? = h[c]?) : DevAt lo F h' db d := by
  obtain ⟨w, zs, zb, x⟩ := x
  exact ⟨w, zs, zb, x.move (fun _ _ => rfl) (fun b hb => ⟨(x.dom b hb).1, Nat.lt_of_lt_of_le (x.dom b hb).2 hs⟩) hh⟩
theorem DevAt.dom {lo : Nat} {F : Nat → Nat} {h : Hp} {db : Nat} {d : Dv} (x : DevAt lo F h db d) : ∀ b, F b ≠ 0 → lo ≤ b ∧ b < h.size := by obtain ⟨_, _, _, x⟩ := x; exact x.dom
theorem DevAt.lt {lo : Nat} {F : Nat → Nat} {h : Hp} {db : Nat} {d : Dv} (x : DevAt lo F h db d) : lo ≤ db ∧ db < h.size := by
  obtain ⟨_, _, _, x⟩ := x; exact x.dom db (by rw [x.role]; omega)
theorem DevAt.F0 {lo : Nat} {F : Nat → Nat} {h : Hp} {db : Nat} {d : Dv} (x : DevAt lo F h db d) {b : Nat} (hb : b < lo) : F b = 0 := by
  rcases Nat.eq_zero_or_pos (F b) with h | h
  · exact h
  · have := (x.dom b (by omega)).1; omega
theorem DevTo.of {lo : Nat} {F : Nat → Nat} {h h' : Hp} {db : Nat} {d : Dv} (x : DevAt lo F h' db d) (c : Chg F h h') : DevTo lo F h h' db d := ⟨F, x, fun _ _ => rfl, c⟩
/-- one block of the device changed alone. -/
theorem DevIn.put {lo : Nat} {F : Nat → Nat} {h h' : Hp} {db : Nat} {d d' : Dv} {zs : Sl} {zb : List Nat} (x : DevIn lo F h db d zs zb) (hz : d'.zs = d.zs) (hr : Row h' db (dvV d' zs)) (hs : h'.size = h.size) (hh : ∀ c, c ≠ db → h'[c]? = h[c]?) : DevIn lo F h' db d' zs zb := by
  have ne : ∀ c, F c ≠ 1 → c ≠ db := fun c hc e => hc (by rw [e]; exact x.role)
  exact ⟨fun b hb => by rw [hs]; exact x.dom b hb, x.role, hr, x.own.eq fun a ha => hh _ (ne _ (by rw [x.arr a ha]; omega)), x.arr, by rw [hz]; exact x.len,
    fun k hk => by
      have : d'.z k = d.z k := by simp [Dv.z, hz]
      rw [this]
      exact (x.zone k hk).move (fun _ _ => rfl) fun c hc => hh _ (ne _ (by omega))⟩
/-- one zone of the device changed alone. -/
theorem DevIn.zput {lo : Nat} {F F' : Nat → Nat} {h h' : Hp} {db : Nat} {d : Dv} {zs : Sl} {zb : List Nat} (x : DevIn lo F h db d zs zb) {k : Nat} (hk : k < zb.length) {z : Zn} (hF : ∀ c, F c ≠ 0 → F' c = F c) (hd : ∀ b, F' b ≠ 0 → lo ≤ b ∧ b < h'.size)
    (hz : ZoneAt F' h' k zb[k] z) (hh : ∀ c, F c ≠ 0 → F c ≠ 4 + 2 * k → F c ≠ 5 + 2 * k → h'[c]? = h[c]?) : DevIn lo F' h' db (d.setZ k z) zs zb := by
  have hkz : k < d.zs.length := by rw [← x.len]; exact hk
  refine ⟨hd, by rw [hF _ (by rw [x.role]; omega), x.role], x.row.eq (hh _ (by rw [x.role]; omega) (by rw [x.role]; omega) (by rw [x.role]; omega)), x.own.eq fun a ha => hh _ (by rw [x.arr a ha]; omega) (by rw [x.arr a ha]; omega) (by rw [x.arr a ha]; omega),
    fun a ha => by rw [hF _ (by rw [x.arr a ha]; omega), x.arr a ha], by simp [Dv.setZ, x.len], fun j hj => ?_⟩
  rw [d.z_set hkz]
  by_cases e : j = k
  · subst e; rw [if_pos rfl]; exact hz
  · rw [if_neg e]
    exact (x.zone j hj).move hF fun c hc => hh c (by omega) (by omega) (by omega)

/-! ### Questions -/
def dp (db : Nat) : Value := .pointer (some ⟨db, 0, none⟩)
theorem gone_spec {lo : Nat} {F : Nat → Nat} {h : Hp} {db : Nat} {d : Dv} {zs : Sl} {zb : List Nat} (x : DevIn lo F h db d zs zb) : HCalls Try.prog fn_zdev_Dev_gone #[dp db] h fun r h' => r = .bool (decide (d.zs.length = 0)) ∧ h' = h := by
  apply zdev_Dev_gone_vc
  unfold vczdev_Dev_gone
  refine .no rfl ⟨_, rfl, zs, x.row.get rfl, ?_, rfl⟩
  have := x.own.len
  have hl := x.len
  simp at this
  congr 1
  by_cases e : d.zs.length = 0
  · rw [decide_eq_true e]; simp; omega
  · rw [decide_eq_false e]; simp; omega
theorem goneA_spec {lo : Nat} {F : Nat → Nat} {h : Hp} {db : Nat} {d : Dv} {zs : Sl} {zb : List Nat} (w : d.Wf) (x : DevIn lo F h db d zs zb) : HCalls Try.prog fn_zdev_Dev_gone #[dp db] h fun r h' => r = .bool false ∧ h' = h :=
  (gone_spec x).mono fun _ _ ⟨h1, h2⟩ => ⟨by rw [h1, decide_eq_false]; have := w.n; have := w.zones; omega, h2⟩
theorem at_spec {lo : Nat} {F : Nat → Nat} {h : Hp} {db : Nat} {d : Dv} {zs : Sl} {zb : List Nat} (w : d.Wf) (x : DevIn lo F h db d zs zb) (i : Int) : HCalls Try.prog fn_zdev_Dev_at #[dp db, .int .i64 i] h fun r h' =>
    h' = h ∧ (¬ (0 ≤ i ∧ i < d.n) ∧ r = .pointer none ∨ ∃ k : Nat, ∃ hk : k < zb.length, i = k ∧ k < d.n ∧ r = pv zb[k]) := by
  apply zdev_Dev_at_vc
  unfold vczdev_Dev_at
  have hl := x.own.len
  have hl2 := x.len
  have hn := w.n
  simp at hl
  refine (goneA_spec w x).mono ?_
  rintro _ _ ⟨rfl, rfl⟩
  refine ⟨_, rfl, .ff (IfB.dec (fun h1 => ⟨rfl, .inl ⟨by omega, rfl⟩⟩) (fun h1 => ⟨_, rfl, zs, x.row.get rfl, IfB.dec (fun h2 => ⟨rfl, .inl ⟨by omega, rfl⟩⟩) (fun h2 => ⟨_, rfl, zs, x.row.get rfl, ?_⟩)⟩))⟩
  obtain ⟨k, rfl⟩ : ∃ k : Nat, i = k := ⟨i.toNat, by omega⟩
  have hk : k < zb.length := by omega
  refine ix1 x.own.rd (by simp; omega) k rfl (by simpa using hk) fun a _ hc => ⟨some ⟨zb[k], 0, none⟩, by simpa [pv] using hc, rfl, .inr ⟨k, hk, rfl, by omega, rfl⟩⟩
theorem Pointer_spec {lo : Nat} {F : Nat → Nat} {h : Hp} {db : Nat} {d : Dv} (x : DevAt lo F h db d) (i : Int) : HCalls Try.prog fn_zdev_Dev_Pointer #[dp db, .int .i64 i] h fun r h' =>
    h' = h ∧ (¬ (0 ≤ i ∧ i < d.n) ∧ r = .tuple #[.int .i64 0, .int .i64 1] ∨ ∃ k : Nat, i = k ∧ k < d.n ∧ r = .tuple #[.int .i64 ((d.z k).rows.length : Int), .int .i64 0]) := by
  obtain ⟨w, zs, zb, x⟩ := x
  apply zdev_Dev_Pointer_vc
  unfold vczdev_Dev_Pointer
  refine (at_spec w x i).mono ?_
  rintro _ _ ⟨rfl, ⟨hn, rfl⟩ | ⟨k, hk, rfl, hkn, rfl⟩⟩
  · exact ⟨_, rfl, .yes rfl ⟨rfl, .inl ⟨hn, rfl⟩⟩⟩
  · obtain ⟨bs, rows, y⟩ := x.zone k hk
    refine ⟨_, rfl, .no rfl ⟨_, rfl, bs, y.row.get0 rfl, rfl, .inr ⟨k, rfl, hkn, ?_⟩⟩⟩
    rw [y.slen.1]
/-! ### An op begins -/
def Dv.dead (d : Dv) : Bool := d.off || (d.cut && decide (d.left = 0))
def Dv.tick (d : Dv) : Dv := { d with ops := iAdd .i64 d.ops 1, off := d.dead, left := if d.dead then d.left else if d.cut then d.left - 1 else d.left }
theorem Dv.tick_z (d : Dv) (k : Nat) : d.tick.z k = d.z k := rfl
theorem Dv.Wf.tick {d : Dv} (w : d.Wf) : d.tick.Wf := ⟨w.n, w.zones, w.size, by
  have := w.left
  show (if d.dead then d.left else if d.cut then d.left - 1 else d.left) < _
  split
  · exact this
  · split <;> omega, w.each⟩
theorem begin_spec {lo : Nat} {F : Nat → Nat} {h : Hp} {db : Nat} {d : Dv} {zs : Sl} {zb : List Nat} (w : d.Wf) (x : DevIn lo F h db d zs zb) : HCalls Try.prog fn_zdev_Dev_begin #[dp db] h fun r h' =>
    r = .bool (!d.dead) ∧ DevIn lo F h' db d.tick zs zb ∧ h'.size = h.size ∧ ∀ c, c ≠ db → h'[c]? = h[c]? := by
  apply zdev_Dev_begin_vc
  unfold vczdev_Dev_begin
  have hl := w.left
  obtain ⟨ok1, r1, x1, s1⟩ := x.row.set (i := 3) (by simp [dvV]) (.int .i64 (iAdd .i64 d.ops 1))
  refine ⟨_, rfl, d.ops, x.row.get rfl, _, rfl, ok1, ?_⟩
  generalize hset h ((⟨db, 0, none⟩ : Addr).add 3) (.int .i64 (iAdd .i64 d.ops 1)) = h1 at *
  have r1 : Row h1 db (dvV { d with ops := iAdd .i64 d.ops 1 } zs) := r1
  refine ⟨fun h2 => Row h2 db (dvV { d with ops := iAdd .i64 d.ops 1, off := d.dead } zs) ∧ h2.size = h.size ∧ ∀ c, c ≠ db → h2[c]? = h[c]?, ?_, ?_⟩
  · have go : ∀ b, b = d.dead → StOk h1 ((⟨db, 0, none⟩ : Addr).add 7) ∧ Row (hset h1 ((⟨db, 0, none⟩ : Addr).add 7) (.bool b)) db (dvV { d with ops := iAdd .i64 d.ops 1, off := d.dead } zs) ∧ (hset h1 ((⟨db, 0, none⟩ : Addr).add 7) (.bool b)).size = h.size ∧ ∀ c, c ≠ db → (hset h1 ((⟨db, 0, none⟩ : Addr).add 7) (.bool b))[c]? = h[c]? := by
      rintro _ rfl
      obtain ⟨ok2, r2, x2, s2⟩ := r1.set (i := 7) (by simp [dvV]) (.bool d.dead)
      exact ⟨ok2, r2, by rw [s2, s1], fun c hc => by rw [x2 c hc, x1 c hc]⟩
    refine ⟨_, rfl, d.off, r1.get rfl, IfB.intro (fun h => ?_) (fun h => ?_)⟩
    · exact ⟨_, rfl, go _ (by simp [Dv.dead, h])⟩
    · refine ⟨_, rfl, d.cut, r1.get rfl, IfB.intro (fun h' => ?_) (fun h' => ?_)⟩
      · refine ⟨_, rfl, _, r1.get rfl, _, rfl, ?_⟩
        refine go _ ?_
        simp only [Dv.dead, h, h', Bool.false_or, Bool.true_and]
        congr 1
        rw [eq_iff_iff]; omega
      · exact ⟨_, rfl, go _ (by simp [Dv.dead, h, h'])⟩
  · rintro _ h2 ⟨r2, s2, x2⟩
    refine ⟨_, rfl, d.dead, r2.get rfl, IfB.intro (fun hd => ?_) (fun hd => ?_)⟩
    · refine ⟨by rw [hd]; rfl, x.put (d' := d.tick) rfl ?_ s2 x2, s2, x2⟩
      have : dvV d.tick zs = dvV { d with ops := iAdd .i64 d.ops 1, off := d.dead } zs := by simp [dvV, Dv.tick, hd]
      rw [this]; exact r2
    · refine ⟨_, rfl, d.cut, r2.get rfl, IfB.intro (fun hc => ?_) (fun hc => ?_)⟩
      · have hpos : 0 < d.left := by
          rcases Nat.eq_zero_or_pos d.left with h0 | h0
          · simp [Dv.dead, hc, h0] at hd
          · exact h0
        obtain ⟨ok3, r3, x3, s3⟩ := r2.set (i := 6) (by simp [dvV]) (.int .i64 (iSub .i64 (d.left : Int) 1))
        refine ⟨_, rfl, _, r2.get rfl, _, rfl, ok3, by rw [hd]; rfl, x.put (d' := d.tick) rfl ?_ (by rw [s3, s2]) (fun c hc => by rw [x3 c hc, x2 c hc]), by rw [s3, s2], fun c hc => by rw [x3 c hc, x2 c hc]⟩
        have e : iSub .i64 (d.left : Int) 1 = ((d.left - 1 : Nat) : Int) := by rw [iSub64 (by omega)]; omega
        rw [e] at r3 ⊢
        have : dvV d.tick zs = (dvV { d with ops := iAdd .i64 d.ops 1, off := d.dead } zs).set 6 (.int .i64 ((d.left - 1 : Nat) : Int)) := by simp [dvV, Dv.tick, hd, hc]
        rw [this]; exact r3
      · refine ⟨by rw [hd]; rfl, x.put (d' := d.tick) rfl ?_ s2 x2, s2, x2⟩
        have : dvV d.tick zs = dvV { d with ops := iAdd .i64 d.ops 1, off := d.dead } zs := by simp [dvV, Dv.tick, hd, hc]
        rw [this]; exact r2

end Go.Proofs.Ytippdkokbhejmaa
