/-
  zdev, as the laws use it.
-/
import Derived.Test.YtippdkokbhejmaaDev4
import Derived.Test.YtippdkokbhejmaaBlockB
namespace Go.Proofs.Ytippdkokbhejmaa
set_option linter.unusedVariables false
set_option linter.unusedSimpArgs false

/-- a device that this call has made; all that was there is as it was. -/
def DevL (h0 h : Hp) (db : Nat) (d : Dv) : Prop := (∃ F, DevAt h0.size F h db d) ∧ Ext h0 h
theorem DevL.ext {h0 h h' : Hp} {db : Nat} {d : Dv} (x : DevL h0 h db d) (e : Ext h h') : DevL h0 h' db d := by
  obtain ⟨⟨F, x⟩, e0⟩ := x; exact ⟨⟨F, x.ext e⟩, e0.trans e⟩
theorem DevL.wf {h0 h : Hp} {db : Nat} {d : Dv} (x : DevL h0 h db d) : d.Wf := by obtain ⟨⟨F, x⟩, _⟩ := x; exact x.1
theorem DevL.of {h0 h h' : Hp} {F : Nat → Nat} {db : Nat} {d d' : Dv} (x : DevAt h0.size F h db d) (e : Ext h0 h) (t : DevTo h0.size F h h' db d') : DevL h0 h' db d' := by
  obtain ⟨F', x', g, c⟩ := t
  exact ⟨⟨F', x'⟩, c.ext e fun b hb => x.F0 hb⟩
theorem blkApp {h0 h : Hp} {db : Nat} {d : Dv} (x : DevL h0 h db d) (i k : Int) {K : Int → Int → Hp → Prop} (hK : ∀ h', DevL h0 h' db (d.append i (blockL 64 k)).2 → K (d.append i (blockL 64 k)).1.1 (d.append i (blockL 64 k)).1.2 h') :
    HCalls Try.prog fn_scarpalike_Block #[.int .i64 (64 : Int), .int .i64 k] h fun r vh => ∃ c : Sl, r = .slice c.base c.len c.cap ∧
      HCalls Try.prog fn_zdev_Dev_Append #[dp db, .int .i64 i, .slice c.base c.len c.cap] vh fun r2 vh2 => ∃ c8 : Int, ∃ c9 : Int, r2 = .tuple #[.int .i64 c8, .int .i64 c9] ∧ K c8 c9 vh2 := by
  obtain ⟨⟨F, x⟩, e0⟩ := x
  refine (Block_spec 64 k (by omega) h).mono ?_
  rintro _ h1 ⟨u, rfl, ou, lu, e1⟩
  refine ⟨u, rfl, ?_⟩
  refine (Append_spec (x.ext e1) (e0.trans e1).size i ou.toRd fun a ha => ?_).mono ?_
  · have := (ou.lt ha).1
    rcases Nat.eq_zero_or_pos (F a.block) with h | h
    · exact h
    · have := (x.dom a.block (by omega)).2; omega
  rintro _ h2 ⟨rfl, t⟩
  exact ⟨_, _, rfl, hK h2 (DevL.of (x.ext e1) (e0.trans e1) t)⟩
theorem resetL {h0 h : Hp} {db : Nat} {d : Dv} (x : DevL h0 h db d) (i : Int) {K : Int → Hp → Prop} (hK : ∀ h', DevL h0 h' db (d.reset i).2 → K (d.reset i).1 h') :
    HCalls Try.prog fn_zdev_Dev_Reset #[dp db, .int .i64 i] h fun r2 vh2 => ∃ c : Int, r2 = .int .i64 c ∧ K c vh2 := by
  obtain ⟨⟨F, x⟩, e0⟩ := x
  refine (Reset_spec x i).mono ?_
  rintro _ h2 ⟨rfl, t⟩
  exact ⟨_, rfl, hK h2 (DevL.of x e0 t)⟩
theorem flushL {h0 h : Hp} {db : Nat} {d : Dv} (x : DevL h0 h db d) {K : Int → Hp → Prop} (hK : ∀ h', DevL h0 h' db d.flush.2 → K d.flush.1 h') :
    HCalls Try.prog fn_zdev_Dev_Flush #[dp db] h fun r2 vh2 => ∃ c : Int, r2 = .int .i64 c ∧ K c vh2 := by
  obtain ⟨⟨F, x⟩, e0⟩ := x
  refine (Flush_spec x).mono ?_
  rintro _ h2 ⟨rfl, t⟩
  exact ⟨_, rfl, hK h2 (DevL.of x e0 t)⟩
theorem ptrL {h0 h : Hp} {db : Nat} {d : Dv} (x : DevL h0 h db d) (k : Nat) (hk : k < d.n) {K : Int → Int → Hp → Prop} (hK : K ((d.z k).rows.length : Int) 0 h) :
    HCalls Try.prog fn_zdev_Dev_Pointer #[dp db, .int .i64 (k : Int)] h fun r2 vh2 => ∃ c : Int, ∃ c1 : Int, r2 = .tuple #[.int .i64 c, .int .i64 c1] ∧ K c c1 vh2 := by
  obtain ⟨⟨F, x⟩, e0⟩ := x
  refine (Pointer_spec x _).mono ?_
  rintro _ h2 ⟨rfl, ⟨hn, rfl⟩ | ⟨k', hk1, hk2, rfl⟩⟩
  · exfalso; omega
  · obtain rfl : k = k' := by omega
    exact ⟨_, _, rfl, hK⟩
theorem newL {h0 h : Hp} (e0 : Ext h0 h) (n size : Nat) (ok : (8 ≤ n ∧ n ≤ 64) ∧ (96 ≤ size ∧ size ≤ 192)) {K : Option Addr → Int → Hp → Prop} (hK : ∀ db h', DevL h0 h' db (Dv.new n size) → h.size ≤ db → Ext h h' → K (some ⟨db, 0, none⟩) 0 h') :
    HCalls Try.prog fn_zdev_New #[.agg #[.int .i64 (n : Int), .int .i64 (size : Int)]] h fun r2 vh2 => ∃ c : Option Addr, ∃ c1 : Int, r2 = .tuple #[.pointer c, .int .i64 c1] ∧ K c c1 vh2 := by
  refine (New_spec _ _ h).mono ?_
  rintro _ h1 ⟨e1, ⟨hno, _⟩ | ⟨_, F, b, rfl, x⟩⟩
  · exact absurd ⟨by omega, by omega⟩ hno
  rw [Int.toNat_natCast, Int.toNat_natCast] at x
  refine ⟨_, _, rfl, hK b h1 ⟨⟨F, ?_⟩, e0.trans e1⟩ x.lt.1 e1⟩
  obtain ⟨w, zs, zb, x⟩ := x
  exact ⟨w, zs, zb, fun b hb => ⟨Nat.le_trans e0.size (x.dom b hb).1, (x.dom b hb).2⟩, x.role, x.row, x.own, x.arr, x.len, x.zone⟩
/-- the power is on, and stays. -/
def Live (d : Dv) : Prop := d.cut = false ∧ d.off = false
theorem Live.dead {d : Dv} (l : Live d) : d.dead = false := by simp [Dv.dead, l.1, l.2]
theorem Live.tick {d : Dv} (l : Live d) : Live d.tick := ⟨l.1, l.dead⟩
theorem Live.setZ {d : Dv} (l : Live d) (k : Nat) (z : Zn) : Live (d.setZ k z) := l
theorem append_live {d : Dv} (l : Live d) {k : Nat} (hk : k < d.n) {p : List UInt8} (hp : p.length = 64) :
    d.append (k : Int) p = if d.size ≤ (d.z k).rows.length then (((0 : Int), (9 : Int)), d.tick) else ((((d.z k).rows.length : Int), (0 : Int)), d.tick.setZ k ⟨(d.z k).rows ++ [p], (d.z k).good⟩) := by
  unfold Dv.append
  rw [if_neg (by omega), if_neg (by omega), if_neg (by simp [l.dead]), Int.toNat_natCast]
theorem reset_live {d : Dv} (l : Live d) {k : Nat} (hk : k < d.n) : d.reset (k : Int) = (0, d.tick.setZ k ⟨[], 0⟩) := by
  unfold Dv.reset
  rw [if_neg (by omega), if_neg (by simp [l.dead]), Int.toNat_natCast]
theorem flush_live {d : Dv} (l : Live d) : d.flush = (0, d.tick.flushed) := by
  unfold Dv.flush
  rw [if_neg (by simp [l.dead])]
theorem Dv.flushed_z (d : Dv) (k : Nat) : d.flushed.z k = ⟨(d.z k).rows, (d.z k).rows.length⟩ := by
  unfold Dv.z Dv.flushed
  simp only [List.getD_eq_getElem?_getD, List.getElem?_map]
  cases d.zs[k]? <;> rfl
theorem new_live (n size : Nat) : Live (Dv.new n size) := ⟨rfl, rfl⟩

end Go.Proofs.Ytippdkokbhejmaa
