/-
  slot.Room, Dead, Load, Save.
-/
import Derived.Test.YtfelkonmhfejdaaSlot3
namespace Go.Proofs.Ytfelkonmhfejdaa
set_option linter.unusedVariables false
set_option linter.unusedSimpArgs false

def SlV.room (S : SlV) : Int := 40 * ((if (S.f2 : Int) - S.f1 < (S.f1 : Int) - S.f0 then (S.f2 : Int) - S.f1 else (S.f1 : Int) - S.f0) * S.size - 2)
structure SlV.Ok (S : SlV) : Prop where
  f01 : S.f0 ≤ S.f1
  f12 : S.f1 ≤ S.f2
  f2 : S.f2 ≤ 64
  size : 1 ≤ S.size ∧ S.size ≤ 192
  inn : S.inn ≤ 1
  count : S.count < 1099511627776
theorem SlotAt.dev {F F' : Nat → Nat} {h h' : Hp} {sb db : Nat} {S : SlV} {tx : List UInt8} {ts : Sl} (x : SlotAt F h sb db S tx ts) (c : Chg F h h') (g : ∀ b, b < h.size → F' b = F b) : SlotAt F' h' sb db S tx ts :=
  ⟨by rw [g _ x.row.lt]; exact x.role, (x.chg c).row, (x.chg c).text, fun a ha => ⟨by rw [g _ (x.tb a ha).2.1]; exact (x.tb a ha).1, ((x.chg c).tb a ha).2⟩⟩
theorem SlV.Ok.f {S : SlV} (o : S.Ok) (i : Nat) (hi : i < 2) : S.f i ≤ S.f (i + 1) := by
  have := o.f01
  have := o.f12
  rcases (show i = 0 ∨ i = 1 by omega) with rfl | rfl
  · show S.f0 ≤ S.f1; omega
  · show S.f1 ≤ S.f2; omega
theorem SlV.Ok.f2' {S : SlV} (o : S.Ok) (i : Nat) (hi : i ≤ 2) : S.f i ≤ S.f2 := by
  have := o.f01
  have := o.f12
  rcases (show i = 0 ∨ i = 1 ∨ i = 2 by omega) with rfl | rfl | rfl
  · show S.f0 ≤ S.f2; omega
  · show S.f1 ≤ S.f2; omega
  · show S.f2 ≤ S.f2; omega
theorem Room_spec {h : Hp} {sb db : Nat} {S : SlV} {ts : Sl} (row : Row h sb (slC db S ts)) (o : S.Ok) : HCalls Try.prog fn_slot_Slots_Room #[sp sb] h fun r h' => r = .int .i64 S.room ∧ h' = h := by
  apply slot_Slots_Room_vc
  unfold vcslot_Slots_Room
  have h1 := o.f01
  have h2 := o.f12
  have h3 := o.f2
  have h4 := o.size
  refine .no rfl ⟨_, rfl, _, row.get0 rfl, .no rfl ⟨_, rfl, ?_⟩⟩
  refine slC_f row 1 rfl (by omega) ⟨_, rfl, slC_f row 0 rfl (by omega) ⟨_, rfl, slC_f row 2 rfl (by omega) ⟨_, rfl, slC_f row 1 rfl (by omega) ⟨_, rfl, _, row.get rfl, ?_, rfl⟩⟩⟩⟩
  show Value.int .i64 (iMul .i64 (40 : Int) (iSub .i64 (iMul .i64 (if (iSub .i64 (S.f2 : Int) (S.f1 : Int)) < (iSub .i64 (S.f1 : Int) (S.f0 : Int)) then (iSub .i64 (S.f2 : Int) (S.f1 : Int)) else (iSub .i64 (S.f1 : Int) (S.f0 : Int))) (S.size : Int)) (2 : Int))) = _
  have k1 : iSub .i64 (S.f2 : Int) (S.f1 : Int) = (S.f2 : Int) - S.f1 := iSub64 (by omega)
  have k2 : iSub .i64 (S.f1 : Int) (S.f0 : Int) = (S.f1 : Int) - S.f0 := iSub64 (by omega)
  rw [k1, k2]
  unfold SlV.room
  generalize hg : (if (S.f2 : Int) - S.f1 < (S.f1 : Int) - S.f0 then (S.f2 : Int) - S.f1 else (S.f1 : Int) - S.f0) = g
  have hg0 : 0 ≤ g ∧ g ≤ 64 := by rw [← hg]; split <;> omega
  have hm1 : 0 ≤ g * S.size := Int.mul_nonneg hg0.1 (by omega)
  have hm2 : g * S.size ≤ 64 * 192 := Int.mul_le_mul hg0.2 (by omega) (by omega) (by omega)
  have k3 : iMul .i64 g (S.size : Int) = g * S.size := iMul64 (by omega)
  rw [k3, iSub64 (by omega), iMul64 (by omega)]
theorem Dead_spec {h : Hp} {sb db : Nat} {S : SlV} {ts : Sl} (row : Row h sb (slC db S ts)) : HCalls Try.prog fn_slot_Slots_Dead #[sp sb] h fun r h' => r = .bool S.off ∧ h' = h := by
  apply slot_Slots_Dead_vc
  unfold vcslot_Slots_Dead
  exact .no rfl ⟨_, rfl, _, row.get0 rfl, .no rfl ⟨_, rfl, _, row.get rfl, rfl, rfl⟩⟩
theorem Load_spec {h : Hp} {sb db : Nat} {S : SlV} {ts : Sl} {tx : List UInt8} (row : Row h sb (slC db S ts)) (rt : Rd 1 h ts (tx.map bv)) (hm : tx.length ≤ 1000000) : HCalls Try.prog fn_slot_Slots_Load #[sp sb] h fun r h' => ∃ t : Sl, r = .tuple #[.slice t.base t.len t.cap, .int .i64 (S.count : Int)] ∧ Own h.size 1 h' t (tx.map bv) ∧ t.len = tx.length ∧ Ext h h' := by
  apply slot_Slots_Load_vc
  unfold vcslot_Slots_Load
  refine .no rfl ⟨_, rfl, ts, row.get rfl, _, rfl, _, row.get rfl, ?_⟩
  refine (slClone_spec rt (by omega)).mono ?_
  rintro _ h1 ⟨u, rfl, ou, lu, e1⟩
  exact ⟨u, rfl, e1, u, rfl, ou, lu, e1⟩

open Classical in
noncomputable def saveV (d : Dv) (S : SlV) (tx t : List UInt8) : Int × Dv × SlV × List UInt8 :=
  if S.room < (t.length : Int) then (7, d, S, tx) else
  if S.off = true then (12, d, S, tx) else
  if (d.wr (S.f (1 - S.inn)) (S.f (1 - S.inn + 1)) S.size (S.count + 1) t).1 ≠ 0 then ((d.wr (S.f (1 - S.inn)) (S.f (1 - S.inn + 1)) S.size (S.count + 1) t).1, (d.wr (S.f (1 - S.inn)) (S.f (1 - S.inn + 1)) S.size (S.count + 1) t).2, { S with off := true }, tx) else
  (0, (d.wr (S.f (1 - S.inn)) (S.f (1 - S.inn + 1)) S.size (S.count + 1) t).2, { S with inn := 1 - S.inn, count := S.count + 1 }, t)
/-- what Save makes of it. -/
def SaveR (lo : Nat) (F : Nat → Nat) (h : Hp) (sb db : Nat) (ts : Sl) (v : Int × Dv × SlV × List UInt8) (r : Value) (h' : Hp) : Prop :=
  r = .int .i64 v.1 ∧ ∃ F' ts', DevAt lo F' h' db v.2.1 ∧ SlotAt F' h' sb db v.2.2.1 v.2.2.2 ts' ∧ h.size ≤ h'.size ∧ (∀ b, b < h.size → F' b = F b) ∧ (∀ b, b < h.size → F b = 0 → b ≠ sb → h'[b]? = h[b]?) ∧ ∀ a, ts'.base = some a → ts.base = some a ∨ h.size ≤ a.block
theorem store3 {h : Hp} {sb db : Nat} {S : SlV} {ts u : Sl} (row : Row h sb (slC db S ts)) {v5 v7 : Int} (i5 i7 : Nat) (h5 : v5 = i5) (h7 : v7 = i7) {K : Hp → Prop}
    (hK : ∀ h', Row h' sb (slC db { S with inn := i5, count := i7 } u) → h'.size = h.size → (∀ b, b ≠ sb → h'[b]? = h[b]?) → K h') :
    ∃ a5 : Addr, (some ⟨sb, 0, none⟩ : Option Addr) = some a5 ∧
        StOk h (a5.add 5) ∧
        Lt (hset h (a5.add 5) (.int .i64 v5)) fun vh5 =>
        True ∧
        ∃ a6 : Addr, (some ⟨sb, 0, none⟩ : Option Addr) = some a6 ∧
        StOk vh5 (a6.add 6) ∧
        Lt (hset vh5 (a6.add 6) (.slice u.base u.len u.cap)) fun vh6 =>
        True ∧
        ∃ a7 : Addr, (some ⟨sb, 0, none⟩ : Option Addr) = some a7 ∧
        StOk vh6 (a7.add 7) ∧
        Lt (hset vh6 (a7.add 7) (.int .i64 v7)) fun vh7 => K vh7 := by
  subst h5 h7
  obtain ⟨ok1, row1, y1, s1⟩ := row.set (i := 5) (by simp [slC]) (.int .i64 (i5 : Int))
  obtain ⟨ok2, row2, y2, s2⟩ := row1.set (i := 6) (by simp [slC]) (.slice u.base u.len u.cap)
  obtain ⟨ok3, row3, y3, s3⟩ := row2.set (i := 7) (by simp [slC]) (.int .i64 (i7 : Int))
  exact ⟨_, rfl, ok1, trivial, _, rfl, ok2, trivial, _, rfl, ok3, hK _ row3 (by rw [s3, s2, s1]) fun b hb => by rw [y3 b hb, y2 b hb, y1 b hb]⟩
theorem Save_spec {lo : Nat} {F : Nat → Nat} {h : Hp} {sb db : Nat} {d : Dv} {S : SlV} {tx t : List UInt8} {ts tl : Sl} (x : DevAt lo F h db d) (hlo : lo ≤ h.size) (sl : SlotAt F h sb db S tx ts) (o : S.Ok) (hn : S.f2 ≤ d.n) (rt : Rd 1 h tl (t.map bv)) (tb : ∀ a, tl.base = some a → F a.block = 0 ∧ a.block < h.size ∧ a.block ≠ sb) (htl : t.length ≤ 1000000) :
    HCalls Try.prog fn_slot_Slots_Save #[sp sb, .slice tl.base tl.len tl.cap] h (SaveR lo F h sb db ts (saveV d S tx t)) := by
  apply slot_Slots_Save_vc
  unfold vcslot_Slots_Save
  have ltl := rt.lenB
  have hin := o.inn
  have hct := o.count
  have stay : ∀ {e : Int} {v : Int × Dv × SlV × List UInt8}, v = (e, d, S, tx) → SaveR lo F h sb db ts v (.int .i64 e) h := by
    rintro e v rfl
    exact ⟨rfl, F, ts, x, sl, Nat.le_refl _, fun _ _ => rfl, fun _ _ _ _ => rfl, fun a ha => .inl ha⟩
  refine (Room_spec sl.row o).mono ?_
  rintro _ h1 ⟨rfl, hh⟩
  obtain rfl := hh.symm
  refine ⟨_, rfl, IfB.dec (fun hbig => stay (by unfold saveV; rw [if_pos (by omega)])) (fun hfit => ?_)⟩
  refine (Dead_spec sl.row).mono ?_
  rintro _ h1 ⟨rfl, hh⟩
  obtain rfl := hh.symm
  refine ⟨_, rfl, IfB.intro (fun hoff => stay (by unfold saveV; rw [if_neg (by omega), if_pos hoff])) (fun hon => ?_)⟩
  obtain ⟨ob, hob, rob⟩ := sl.row.only
  have e1 : iSub .i64 (1 : Int) (S.inn : Int) = ((1 - S.inn : Nat) : Int) := by rw [iSub64 (by omega)]; omega
  have e2 : iAdd .i64 (S.count : Int) (1 : Int) = ((S.count + 1 : Nat) : Int) := by rw [iAdd64 (by omega)]; push_cast; rfl
  refine ⟨onlyB sb ob, sub_only hob, _, rfl, _, rob.get rfl, _, rfl, _, rob.get rfl, ?_⟩
  rw [e1, e2]
  have hf := o.f (1 - S.inn) (by omega)
  have hf2 := o.f2' (1 - S.inn + 1) (by omega)
  refine (write_spec x hlo sl.row sl.role (1 - S.inn) (by omega) hf (by omega) o.size.1 (S.count + 1) (by omega) rt (fun a ha => ⟨(tb a ha).1, (tb a ha).2.1⟩) htl).mono ?_
  rintro _ h2 ⟨rfl, F2, x2, g2, c2⟩
  have s2 := c2.size
  have sl2 := sl.dev c2 g2
  have hsb := sl.row.lt
  refine ⟨_, rfl, sub_only (by rw [c2.block _ hsb sl.role]; exact hob), ?_⟩
  refine IfB.ne (fun hne => ⟨_, rfl, ?_⟩) (fun heq => ⟨_, rfl, _, rfl, ?_⟩)
  · obtain ⟨ok, row3, y3, s3⟩ := sl2.row.set (i := 8) (by simp [slC]) (.bool true)
    refine ⟨ok, ?_⟩
    have hv : saveV d S tx t = ((d.wr (S.f (1 - S.inn)) (S.f (1 - S.inn + 1)) S.size (S.count + 1) t).1, (d.wr (S.f (1 - S.inn)) (S.f (1 - S.inn + 1)) S.size (S.count + 1) t).2, { S with off := true }, tx) := by
      unfold saveV; rw [if_neg (by omega), if_neg (by rw [hon]; simp), if_pos hne]
    rw [hv]
    refine ⟨rfl, F2, ts, x2.keep (by rw [s3]; exact Nat.le_refl _) fun b hb => y3 b fun e => hb (by rw [e]; exact sl2.role), ⟨sl2.role, row3, sl2.text.eq fun a ha => y3 _ (sl2.tb a ha).2.2, fun a ha => ⟨(sl2.tb a ha).1, by rw [s3]; exact (sl2.tb a ha).2.1, (sl2.tb a ha).2.2⟩⟩, by rw [s3]; exact s2, g2, fun b hb hF hne => by rw [y3 b hne, c2.block b hb hF], fun a ha => .inl ha⟩
  · have hv : saveV d S tx t = (0, (d.wr (S.f (1 - S.inn)) (S.f (1 - S.inn + 1)) S.size (S.count + 1) t).2, { S with inn := 1 - S.inn, count := S.count + 1 }, t) := by
      unfold saveV; rw [if_neg (by omega), if_neg (by rw [hon]; simp), if_neg (by omega)]
    rw [hv]
    have rt2 : Rd 1 h2 tl (t.map bv) := rt.eq fun a ha => c2.block _ (tb a ha).2.1 (tb a ha).1
    have clone : ∀ {K : Value → Hp → Prop}, (∀ (u : Sl) h3, Own h2.size 1 h3 u (t.map bv) → Ext h2 h3 → Row h3 sb (slC db S ts) → K (.slice u.base u.len u.cap) h3) → HCalls Try.prog fn_slices_Clone_sbytebyte #[.slice tl.base tl.len tl.cap] h2 K := fun hK => by
      refine (slClone_spec rt2 (by omega)).mono ?_
      rintro _ h3 ⟨u, rfl, ou, lu, e3⟩
      exact hK u h3 ou e3 (sl2.row.ext e3)
    have fin : ∀ {u : Sl} {h3 : Hp}, Own h2.size 1 h3 u (t.map bv) → Ext h2 h3 → Row h3 sb (slC db S ts) →
        ∃ a5 : Addr, (some ⟨sb, 0, none⟩ : Option Addr) = some a5 ∧
        StOk h3 (a5.add 5) ∧
        Lt (hset h3 (a5.add 5) (.int .i64 (iSub .i64 (1 : Int) (S.inn : Int)))) fun vh5 =>
        True ∧
        ∃ a6 : Addr, (some ⟨sb, 0, none⟩ : Option Addr) = some a6 ∧
        StOk vh5 (a6.add 6) ∧
        Lt (hset vh5 (a6.add 6) (.slice u.base u.len u.cap)) fun vh6 =>
        True ∧
        ∃ a7 : Addr, (some ⟨sb, 0, none⟩ : Option Addr) = some a7 ∧
        StOk vh6 (a7.add 7) ∧
        Lt (hset vh6 (a7.add 7) (.int .i64 (iAdd .i64 (S.count : Int) (1 : Int)))) fun vh7 =>
        SaveR lo F h sb db ts (0, (d.wr (S.f (1 - S.inn)) (S.f (1 - S.inn + 1)) S.size (S.count + 1) t).2, { S with inn := 1 - S.inn, count := S.count + 1 }, t) (.int .i64 (0 : Int)) vh7 := by
      intro u h3 ou e3 row3
      have s3 := e3.size
      refine store3 row3 (1 - S.inn) (S.count + 1) e1 e2 fun h4 row4 s4 y4 => ?_
      have hne : ∀ a, u.base = some a → a.block ≠ sb := fun a ha => by have := (ou.lt ha).1; omega
      refine ⟨rfl, F2, u, (x2.ext e3).keep (by omega) fun b hb => y4 b fun e => hb (by rw [e]; exact sl2.role), ⟨sl2.role, row4, ou.toRd.eq fun a ha => y4 _ (hne a ha), fun a ha => ⟨?_, by have := (ou.lt ha).2; omega, hne a ha⟩⟩, by omega, g2, fun b hb hF hne => by rw [y4 b hne, e3.block b (by omega), c2.block b hb hF], fun a ha => .inr (by have := (ou.lt ha).1; omega)⟩
      rcases Nat.eq_zero_or_pos (F2 a.block) with h0 | h0
      · exact h0
      · have := (x2.dom a.block (by omega)).2; have := (ou.lt ha).1; omega
    have g5 : ∀ {h3 : Hp}, Row h3 sb (slC db S ts) → hcell h3 ((⟨sb, 0, none⟩ : Addr).add 5) = some (.int .i64 (S.inn : Int)) := fun r => r.get rfl
    have g7 : ∀ {h3 : Hp}, Row h3 sb (slC db S ts) → hcell h3 ((⟨sb, 0, none⟩ : Addr).add 7) = some (.int .i64 (S.count : Int)) := fun r => r.get rfl
    refine ⟨⟨_, g5 sl2.row, trivial, clone fun u h3 ou e3 row3 => ⟨u, rfl, trivial, _, g7 row3, trivial, fin ou e3 row3⟩, _, g7 sl2.row, trivial, clone fun u h3 ou e3 row3 => ⟨u, rfl, trivial, fin ou e3 row3⟩⟩, clone fun u h3 ou e3 row3 => ⟨u, rfl, trivial, ⟨_, g5 row3, trivial, _, g7 row3, trivial, fin ou e3 row3⟩, _, g7 row3, trivial, _, g5 row3, trivial, fin ou e3 row3⟩, _, g7 sl2.row, trivial, ⟨_, g5 sl2.row, trivial, clone fun u h3 ou e3 row3 => ⟨u, rfl, trivial, fin ou e3 row3⟩⟩, clone fun u h3 ou e3 row3 => ⟨u, rfl, trivial, _, g5 row3, trivial, fin ou e3 row3⟩⟩

end Go.Proofs.Ytfelkonmhfejdaa
