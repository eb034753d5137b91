/-
  zdev: new devices.
-/
import Derived.Test.YtippdkokbhejmaaDev2
import Derived.Test.YtippdkokbhejmaaPlain8
import Derived.Test.YtippdkokbhejmaaAlike0
namespace Go.Proofs.Ytippdkokbhejmaa
set_option linter.unusedVariables false
set_option linter.unusedSimpArgs false

def Dv.add (d : Dv) (z : Zn) : Dv := { d with zs := d.zs ++ [z] }
theorem Dv.add_z (d : Dv) (z : Zn) (j : Nat) (hj : j ≤ d.zs.length) : (d.add z).z j = if j = d.zs.length then z else d.z j := by
  simp only [Dv.z, Dv.add, List.getD_eq_getElem?_getD]
  split
  · rename_i e; subst e; simp
  · rw [List.getElem?_append_left (by omega)]
/-- one zone more. -/
theorem DevIn.addZone {lo e ty : Nat} {zc : Array Value} {F : Nat → Nat} {h : Hp} {db b : Nat} {d : Dv} {zs : Sl} {zb : List Nat} {z : Zn} {K : Sl → Hp → Prop} (hzc : zc.size = 1) (x : DevIn lo F h db d zs zb) (hlo : lo ≤ h.size) (hz : ZoneAt F h d.zs.length b z) (hlen : d.zs.length ≤ 1000)
    (hK : ∀ r h3, h.size ≤ h3.size → Row h3 db (dvV d zs) → StOk h3 ((⟨db, 0, none⟩ : Addr).add 2) → (∀ h4, h4 = hset h3 ((⟨db, 0, none⟩ : Addr).add 2) (.slice r.base r.len r.cap) → ∃ F', DevIn lo F' h4 db (d.add z) r (zb ++ [b]) ∧ (∀ c, c < h.size → F' c = F c) ∧ Chg F h h4) → K r h3) :
    AppC e 1 8 zc zs (Sl.mk (some (nw h)) 1 1) (alc h [pv b] ty) K := by
  have e1 : Ext h (alc h [pv b] ty) := alc_ext _ _ _
  have hzl : zs.len = d.zs.length := by have := x.own.len; have := x.len; simp at *; omega
  have s1 : (alc h [pv b] ty).size = h.size + 1 := size_alc _ _ _
  refine AppC_own5 (news := [pv b]) (l := zb.map pv) hzc (x.own.ext e1) (Nat.zero_le _) rfl (RdC.alc h _ ty) (fun v hv => by simp at hv; subst hv; rfl) (by rw [hzl]; simp; omega) (by rw [hzl]; simp; omega) fun r h3 o3 l3 k3 x3 b3 => ?_
  have s3 := k3.size
  have same : ∀ c, c < h.size → F c ≠ 2 → h3[c]? = h[c]? := fun c hc h2 => by
    rw [x3 c (by omega) fun a ha e => h2 (by rw [e, x.arr a ha]), e1.block c hc]
  have hdb := (x.dom db (by rw [x.role]; omega)).2
  have r3 : Row h3 db (dvV d zs) := x.row.eq (same db hdb (by rw [x.role]; omega))
  obtain ⟨ok, r4, o4, s4⟩ := r3.set (i := 2) (by simp [dvV]) (.slice r.base r.len r.cap)
  refine hK r h3 (by omega) r3 ok ?_
  rintro h4 rfl
  obtain ⟨F', f1, f2, f3, f4⟩ := addF (n := h.size) (fun c hc => (x.dom c hc).2) r.base 2 (by omega) (fun a ha => by
    rcases b3 a ha with h | h
    · exact .inr (x.arr a h)
    · exact .inl (by omega))
  have hrb : ∀ a, r.base = some a → a.block < h3.size := fun a ha => (o3.lt ha).2
  have all : ∀ c, c < h.size → F c ≠ 2 → F c ≠ 1 → (hset h3 ((⟨db, 0, none⟩ : Addr).add 2) (.slice r.base r.len r.cap))[c]? = h[c]? := fun c hc h2 h1 => by
    rw [o4 c fun e => h1 (by rw [e, x.role]), same c hc h2]
  refine ⟨F', ⟨fun c hc => ?_, by rw [f4 _ (by rw [x.role]; omega), x.role], r4, ?_, f2, by simp [Dv.add, x.len], fun k hk => ?_⟩, f1, ⟨by omega, fun c hc hF => all c hc (by omega) (by omega)⟩⟩
  · rcases f3 c hc with h | ⟨a, ha, rfl⟩
    · have := x.dom c h; exact ⟨this.1, by omega⟩
    · have := hrb a ha
      rcases b3 a ha with h | h
      · have := x.dom _ (by rw [x.arr a h]; omega); exact ⟨this.1, by omega⟩
      · exact ⟨by omega, by omega⟩
  · have e : (zb ++ [b]).map pv = zb.map pv ++ [pv b] := by simp
    rw [e]
    refine o3.eq fun a ha => o4 _ fun e => ?_
    have h1 := f2 a ha
    rw [e, f4 _ (by rw [x.role]; omega), x.role] at h1; omega
  · have hkl : k ≤ d.zs.length := by have := x.len; simp at hk; omega
    rw [d.add_z z k hkl]
    have mv : ∀ {j c : Nat} {y : Zn}, ZoneAt F h j c y → ZoneAt F' (hset h3 ((⟨db, 0, none⟩ : Addr).add 2) (.slice r.base r.len r.cap)) j c y := fun {j c y} hy => hy.move f4 fun q hq => all q (x.dom q (by omega)).2 (by omega) (by omega)
    split
    · rename_i e; subst e
      have : (zb ++ [b])[d.zs.length]'hk = b := by simp [← x.len]
      rw [this]; exact mv hz
    · have hk' : k < zb.length := by rw [x.len]; omega
      rw [List.getElem_append_left hk']
      exact mv (x.zone k hk')

/-- an empty one. -/
def Dv.new (n size : Nat) : Dv := ⟨n, size, List.replicate n ⟨[], 0⟩, 0, 0, false, 0, false⟩
theorem Dv.new_wf {n size : Nat} (hn : 8 ≤ n ∧ n ≤ 64) (hs : 96 ≤ size ∧ size ≤ 192) : (Dv.new n size).Wf :=
  ⟨by simp [Dv.new], hn, hs, by show 0 < _; omega, fun z hz => by
    rw [List.eq_of_mem_replicate hz]
    exact ⟨Nat.zero_le _, Nat.zero_le _, fun p hp => by simp at hp⟩⟩
theorem Dv.new_z (n size j : Nat) : (Dv.new n size).z j = ⟨[], 0⟩ := by
  unfold Dv.z Dv.new
  simp only [List.getD_eq_getElem?_getD, List.getElem?_replicate]
  split <;> rfl
def geoOk (n size : Int) : Prop := (8 ≤ n ∧ n ≤ 64) ∧ (96 ≤ size ∧ size ≤ 192)
theorem New_spec (n size : Int) (h : Hp) : HCalls Try.prog fn_zdev_New #[.agg #[.int .i64 n, .int .i64 size]] h fun r h' => Ext h h' ∧
    (¬ geoOk n size ∧ r = .tuple #[.pointer none, .int .i64 1] ∨ geoOk n size ∧ ∃ F b, r = .tuple #[dp b, .int .i64 0] ∧ DevAt h.size F h' b (Dv.new n.toNat size.toNat)) := by
  apply zdev_New_vc
  unfold vczdev_New
  intro h1
  have e1 : Ext h h1 := alc_ext _ _ _
  have r1 : Row h1 h.size [.int .i64 n, .int .i64 size] := Row.alc _ _ _
  refine ⟨_, r1.get0 rfl, IfB.dec (fun hh => ⟨e1, .inl ⟨fun ok => by have := ok.1; omega, rfl⟩⟩) (fun h1' => ⟨_, r1.get0 rfl, IfB.dec (fun hh => ⟨e1, .inl ⟨fun ok => by have := ok.1; omega, rfl⟩⟩) (fun h2' => ⟨_, r1.get rfl, IfB.dec (fun hh => ⟨e1, .inl ⟨fun ok => by have := ok.2; omega, rfl⟩⟩) (fun h3' => ⟨_, r1.get rfl, IfB.dec (fun hh => ⟨e1, .inl ⟨fun ok => by have := ok.2; omega, rfl⟩⟩) (fun h4' => ?_)⟩)⟩)⟩)⟩
  have ok : geoOk n size := ⟨by omega, by omega⟩
  refine r1.get2 ?_
  obtain ⟨n, rfl⟩ : ∃ k : Nat, n = k := ⟨n.toNat, by omega⟩
  obtain ⟨size, rfl⟩ : ∃ k : Nat, size = k := ⟨size.toNat, by omega⟩
  intro h2
  have e2 : Ext h1 h2 := alc_ext _ _ _
  have r2 : Row h2 h1.size [.int .i64 (n : Int), .int .i64 (size : Int), .slice Sl.nil.base Sl.nil.len Sl.nil.cap, .int .i64 (0 : Int), .int .i64 (0 : Int), .bool false, .int .i64 (0 : Int), .bool false] := Row.alc _ _ _
  have s1 : h1.size = h.size + 1 := size_alc _ _ _
  have s2 : h2.size = h1.size + 1 := size_alc _ _ _
  refine ⟨_, (r1.ext e2).get0 rfl, ?_⟩
  rw [Int.toNat_natCast, Int.toNat_natCast]
  refine ⟨fun i m h' => ∃ (j : Nat) (F : Nat → Nat) (zs : Sl) (zb : List Nat), i = j ∧ m + j = n ∧ DevIn h.size F h' h1.size { Dv.new n size with zs := List.replicate j ⟨[], 0⟩ } zs zb ∧ Ext h h', n, ⟨0, fun b => if b = h1.size then 1 else 0, Sl.nil, [], rfl, rfl, ⟨?_, by simp, r2, Own.nil _ _ _, fun a ha => (by cases ha), rfl, fun k hk => by simp at hk⟩, e1.trans e2⟩, ?_⟩
  · intro b hb
    split at hb
    · subst b; omega
    · exact absurd rfl hb
  rintro _ _ m h3 ⟨j, F, zs, zb, rfl, hm, x, e3⟩
  refine IfB.dec (fun hlt => ?_) (fun hge => ?_)
  · refine ⟨_, rfl, zs, x.row.get rfl, ?_⟩
    intro h4 h5
    have e4 : Ext h3 h4 := alc_ext _ _ _
    have r4 : Row h4 h3.size (znV Sl.nil 0) := Row.alc _ _ _
    have s4 : h4.size = h3.size + 1 := size_alc _ _ _
    have hs3 := e3.size
    obtain ⟨F', f1, f2, f3, f4⟩ := addF (n := h3.size) (fun c hc => (x.dom c hc).2) (some ⟨h3.size, 0, none⟩) (4 + 2 * j) (by omega) (fun a ha => .inl (by cases ha; exact Nat.le_refl _))
    have x4 : DevIn h.size F' h4 h1.size { Dv.new n size with zs := List.replicate j ⟨[], 0⟩ } zs zb := x.move f4 (fun b hb => by
      rcases f3 b hb with h | ⟨a, ha, rfl⟩
      · have := x.dom b h; exact ⟨this.1, by omega⟩
      · cases ha; exact ⟨hs3, by show h3.size < h4.size; omega⟩) fun c hc => e4.block c (x.dom c hc).2
    have hzl : (List.replicate j (⟨[], 0⟩ : Zn)).length = j := by simp
    refine x4.addZone (z := ⟨[], 0⟩) (b := h3.size) rfl (by omega) ⟨Sl.nil, [], ⟨by simp only [hzl]; exact f2 _ rfl, r4, Own.nil _ _ _, fun a ha => (by cases ha), rfl, fun p hp => by simp at hp, fun p hp => by simp at hp⟩⟩ (by simp; omega) fun r h6 s6 r6 ok6 g => ⟨_, rfl, ok6, ?_⟩
    obtain ⟨F6, x6, g1, g2⟩ := g _ rfl
    refine ⟨m - 1, by omega, j + 1, F6, r, zb ++ [h3.size], by rw [iAdd64 (by omega)]; push_cast; rfl, by omega, ?_, ?_⟩
    · have : ({ Dv.new n size with zs := List.replicate j ⟨[], 0⟩ } : Dv).add ⟨[], 0⟩ = { Dv.new n size with zs := List.replicate (j + 1) ⟨[], 0⟩ } := by
        simp [Dv.add, List.replicate_succ']
      rw [← this]; exact x6
    · refine g2.ext (e3.trans e4) fun b hb => ?_
      rw [f1 b (by omega)]
      rcases Nat.eq_zero_or_pos (F b) with h | h
      · exact h
      · have := (x.dom b (by omega)).1; omega
  · have hj : j = n := by omega
    subst hj
    exact ⟨e3, .inr ⟨ok, F, h1.size, rfl, Dv.new_wf (by have := ok.1; omega) (by have := ok.2; omega), zs, zb, x⟩⟩

/-! ### Copies of blocks -/
theorem own_spec {h : Hp} {s : Sl} {rows : List (Sl × List UInt8)} (hr : RdC h s.base (rows.map fun p => slV p.1)) (hl : s.len = rows.length) (each : ∀ p ∈ rows, Rd 1 h p.1 (p.2.map bv)) (h64 : ∀ p ∈ rows, p.2.length ≤ 1000000) (hmax : rows.length ≤ 1000000) :
    HCalls Try.prog fn_zdev_own #[.slice s.base s.len s.cap] h fun r h' => ∃ t rows', r = slV t ∧ OwnRows h.size h' t rows' ∧ rows'.map (·.2) = rows.map (·.2) ∧ Ext h h' := by
  apply zdev_own_vc
  unfold vczdev_own
  refine ⟨fun out i m h' => ∃ (j : Nat) (rows' : List (Sl × List UInt8)), i = j ∧ m + j = rows.length ∧ OwnRows h.size h' out rows' ∧ rows'.map (·.2) = (rows.take j).map (·.2) ∧ Ext h h', rows.length, ⟨0, [], rfl, rfl, OwnRows.nil _ _, rfl, .refl _⟩, ?_⟩
  rintro _ out _ m h1 ⟨j, rows', rfl, hm, o1, q1, e1⟩
  refine IfB.dec (fun hlt => ?_) (fun hge => ?_)
  · have hj : j < rows.length := by omega
    have hmem : rows[j] ∈ rows := List.getElem_mem hj
    refine ixS (hr.ext e1) hl j rfl hj ?_
    refine (slClone_spec ((each _ hmem).ext e1) (by have := h64 _ hmem; omega)).mono ?_
    rintro _ h2 ⟨u, rfl, ou, lu, e2⟩
    refine ⟨u, rfl, ?_⟩
    intro h3
    have hlen : rows'.length = j := by have := congrArg List.length q1; simp at this; omega
    refine OwnRows.push rfl o1 e1.size e2 ou (by omega) (fun r h4 o4 l4 k4 x4 b4 => ?_) (by omega)
    refine ⟨m - 1, by omega, j + 1, _, by rw [iAdd64 (by omega)]; push_cast; rfl, by omega, o4, ?_, (e1.toKeep.trans k4).ext⟩
    rw [List.map_append, q1, List.take_succ_eq_append_getElem hj, List.map_append]; rfl
  · have hj : j = rows.length := by omega
    subst hj
    rw [List.take_length] at q1
    exact ⟨out, rows', rfl, o1, q1, e1⟩
theorem tear_spec {h : Hp} {p : Sl} {q : List UInt8} (rp : Rd 1 h p (q.map bv)) (h64 : q.length = 64) :
    HCalls Try.prog fn_zdev_tear #[.slice p.base p.len p.cap] h (NewB h (tornL q)) := by
  apply zdev_tear_vc
  unfold vczdev_tear
  refine (slClone_spec rp (by omega)).mono ?_
  rintro _ h1 ⟨s, rfl, o6, l6, e06⟩
  have hs : s.len = 64 := by rw [l6]; omega
  refine ⟨s, rfl, ?_⟩
  have torn32 : q.take 32 ++ ((q.drop 32).map (· ^^^ 85)).take 0 ++ q.drop 32 = q := by simp
  refine ⟨fun i m h' => ∃ j : Nat, i = ((32 + j : Nat) : Int) ∧ m + j = 32 ∧ Ext h h' ∧ Own h.size 1 h' s ((q.take 32 ++ ((q.drop 32).map (· ^^^ 85)).take j ++ q.drop (32 + j)).map bv), 32, ⟨0, rfl, rfl, e06, by rw [Nat.add_zero, torn32]; exact o6⟩, ?_⟩
  rintro _ _ m h7 ⟨j, rfl, hm, e7, o7⟩
  have hl7 := o7.toRd.lenB
  refine IfB.dec (fun hlt => ?_) (fun hge => ?_)
  · have hj : 32 + j < q.length := by omega
    refine ixB o7.rd hl7 (32 + j) rfl (by omega) ?_
    have hg : (q.take 32 ++ ((q.drop 32).map (· ^^^ 85)).take j ++ q.drop (32 + j))[32 + j]'(by omega) = q[32 + j] := by
      have hx : (q.take 32 ++ ((q.drop 32).map (· ^^^ 85)).take j).length = 32 + j := by simp; omega
      rw [List.getElem_append_right (by omega), List.getElem_drop]
      congr 1; omega
    rw [hg]
    obtain ⟨b, hb, _⟩ := o7.rd.get (i := 0) (by rw [List.length_map]; omega)
    obtain ⟨ok1, o8, k8, _, s8⟩ := o7.set hb (k := 32 + j) (by rw [List.length_map]; omega) (bv (q[32 + j] ^^^ 85))
    refine ⟨b, hb, by omega, hlt, ?_⟩
    have hv : Value.int .u8 (iXor .u8 (q[32 + j].toNat : Int) (85 : Int)) = bv (q[32 + j] ^^^ 85) := by
      have := xor_bv q[32 + j] 85
      exact congrArg (Value.int .u8) this
    rw [hv]
    simp only [Int.toNat_natCast, Nat.mul_one]
    refine ⟨ok1, m - 1, by omega, j + 1, by rw [iAdd64 (by omega)]; push_cast; omega, by omega, (e7.toKeep.trans k8).ext, ?_⟩
    have hset : (q.take 32 ++ ((q.drop 32).map (· ^^^ 85)).take j ++ q.drop (32 + j)).set (32 + j) (q[32 + j] ^^^ 85) = q.take 32 ++ ((q.drop 32).map (· ^^^ 85)).take (j + 1) ++ q.drop (32 + (j + 1)) := by
      have hx : (q.take 32 ++ ((q.drop 32).map (· ^^^ 85)).take j).length = 32 + j := by simp; omega
      rw [List.set_append_right _ _ (by omega), hx, Nat.sub_self, List.drop_eq_getElem_cons hj, List.set_cons_zero]
      rw [List.take_succ_eq_append_getElem (i := j) (by simp; omega)]
      simp only [List.getElem_map, List.getElem_drop, List.append_assoc, List.cons_append, List.nil_append]
      rfl
    rw [← hset, List.map_set]; exact o8
  · have hj : j = 32 := by omega
    subst hj
    have he : q.take 32 ++ ((q.drop 32).map (· ^^^ 85)).take 32 ++ q.drop (32 + 32) = tornL q := by
      unfold tornL
      have hnil : q.drop (32 + 32) = [] := List.drop_eq_nil_of_le (by omega)
      rw [List.take_of_length_le (l := (q.drop 32).map (· ^^^ 85)) (by simp; omega), hnil, List.append_nil]
    rw [he] at o7
    exact ⟨s, rfl, o7, o7.toRd.lenB.symm, e7⟩
def pickL (l : List Int) (k : Nat) : Option Int := if l.length = 0 then none else l[k % l.length]?
theorem pick_spec {h : Hp} {s : Sl} {l : List Int} (hl : l.length = s.len) (hr : RdC h s.base (l.map (Value.int .i64))) (k : Nat) :
    HCalls Try.prog fn_zdev_pick #[.slice s.base s.len s.cap, .int .i64 (k : Int)] h fun r h' => h' = h ∧ (pickL l k = none ∧ r = .tuple #[.int .i64 0, .bool false] ∨ ∃ x, pickL l k = some x ∧ r = .tuple #[.int .i64 x, .bool true]) := by
  apply zdev_pick_vc
  unfold vczdev_pick pickL
  refine IfB.eq (fun h0 => ⟨rfl, .inl ⟨by rw [if_pos (by omega)], rfl⟩⟩) (fun h0 => ⟨h0, ?_⟩)
  have hpos : 0 < l.length := by omega
  have hm : k % l.length < l.length := Nat.mod_lt _ hpos
  have er : iRem (k : Int) (s.len : Int) = ((k % l.length : Nat) : Int) := by rw [iRem_nn (by omega), hl]; push_cast; rfl
  rw [er, if_neg (by omega)]
  refine ix1 hr (by simpa using hl) (k % l.length) rfl (by simpa using hm) fun a _ hc => ⟨l[k % l.length], by simpa using hc, rfl, .inr ⟨_, List.getElem?_eq_getElem hm, rfl⟩⟩
theorem rest_spec (n m : Int) (hm : 0 < m) (hm2 : m ≤ 9223372036854775807) (h : Hp) : HCalls Try.prog fn_zdev_rest #[.int .i64 n, .int .i64 m] h fun r h' => h' = h ∧ r = .int .i64 (n % m) := by
  apply zdev_rest_vc
  unfold vczdev_rest
  have e := emod_of_tmod (k := n) hm
  have h1 := Int.emod_nonneg n (show m ≠ 0 by omega)
  have h2 := Int.emod_lt_of_pos n hm
  refine ⟨by omega, ?_⟩
  unfold iRem
  refine IfB.dec (fun hlt => ?_) (fun hge => ?_)
  · rw [if_pos hlt] at e
    rw [iAdd64 (by omega)]
    exact ⟨rfl, by rw [e]⟩
  · rw [if_neg hge] at e
    exact ⟨rfl, by rw [e]⟩

end Go.Proofs.Ytippdkokbhejmaa
