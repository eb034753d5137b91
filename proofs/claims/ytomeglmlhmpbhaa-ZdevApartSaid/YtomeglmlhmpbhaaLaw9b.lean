/-
  ZdevApart (chapter 9).
-/
import Derived.Test.YtomeglmlhmpbhaaLaw9
import Derived.Test.YtomeglmlhmpbhaaAlike
namespace Go.Proofs.Ytomeglmlhmpbhaa
set_option linter.unusedVariables false
set_option linter.unusedSimpArgs false

def Dis (F G : Nat → Nat) : Prop := ∀ b, F b ≠ 0 → G b = 0
theorem Dis.symm {F G : Nat → Nat} (d : Dis F G) : Dis G F := fun b hb => by
  rcases Nat.eq_zero_or_pos (F b) with h | h
  · exact h
  · exact absurd (d b (by omega)) hb
theorem DevAt.frame {lo : Nat} {F G : Nat → Nat} {h h' : Hp} {b : Nat} {e : Dv} (y : DevAt lo G h b e) (hd : Dis F G) (c : Chg F h h') : DevAt lo G h' b e :=
  y.keep c.size fun k hk => c.block k (y.dom k hk).2 (hd.symm k hk)
theorem Dis.grow {lo : Nat} {F F' G : Nat → Nat} {h : Hp} {b : Nat} {e : Dv} (hd : Dis F G) (g : ∀ b, b < h.size → F' b = F b) (y : DevAt lo G h b e) : Dis F' G := fun k hk => by
  rcases Nat.eq_zero_or_pos (G k) with h | h
  · exact h
  · have := (y.dom k (by omega)).2
    rw [g k this] at hk
    exact hd k hk
/-- three devices. -/
def Tri (h0 h : Hp) (a b c : Nat) (x y z : Dv) : Prop := ∃ F G E, DevAt h0.size F h a x ∧ DevAt h0.size G h b y ∧ DevAt h0.size E h c z ∧ Dis F G ∧ Dis F E ∧ Dis G E ∧ Ext h0 h
theorem Tri.rot {h0 h : Hp} {a b c : Nat} {x y z : Dv} (t : Tri h0 h a b c x y z) : Tri h0 h b c a y z x := by
  obtain ⟨F, G, E, h1, h2, h3, h4, h5, h6, h7⟩ := t
  exact ⟨G, E, F, h2, h3, h1, h6, h4.symm, h5.symm, h7⟩
theorem Tri.ext {h0 h h' : Hp} {a b c : Nat} {x y z : Dv} (t : Tri h0 h a b c x y z) (e : Ext h h') : Tri h0 h' a b c x y z := by
  obtain ⟨F, G, E, h1, h2, h3, h4, h5, h6, h7⟩ := t
  exact ⟨F, G, E, h1.ext e, h2.ext e, h3.ext e, h4, h5, h6, h7.trans e⟩
theorem Tri.heap {h0 h : Hp} {a b c : Nat} {x y z : Dv} (t : Tri h0 h a b c x y z) : Ext h0 h := by obtain ⟨F, G, E, h1, h2, h3, h4, h5, h6, h7⟩ := t; exact h7
/-- an op of the first one. -/
theorem Tri.op {h0 h : Hp} {a b c : Nat} {x y z : Dv} (t : Tri h0 h a b c x y z) {P : Value → Prop} {x' : Dv} {f : FuncId} {args : Array Value}
    (H : ∀ F, DevAt h0.size F h a x → HCalls Try.prog f args h fun r h' => P r ∧ DevTo h0.size F h h' a x') : HCalls Try.prog f args h fun r h' => P r ∧ Tri h0 h' a b c x' y z := by
  obtain ⟨F, G, E, h1, h2, h3, h4, h5, h6, h7⟩ := t
  refine (H F h1).mono ?_
  rintro r h' ⟨hp, F', h1', g, ch⟩
  exact ⟨hp, F', G, E, h1', h2.frame h4 ch, h3.frame h5 ch, h4.grow g h2, h5.grow g h3, h6, ch.ext h7 fun b hb => h1.F0 hb⟩
theorem blkAppT {h0 h : Hp} {a b c : Nat} {x y z : Dv} (t : Tri h0 h a b c x y z) (i k : Int) {K : Int → Int → Hp → Prop} (hK : ∀ h', Tri h0 h' a b c (x.append i (blockL 64 k)).2 y z → K (x.append i (blockL 64 k)).1.1 (x.append i (blockL 64 k)).1.2 h') :
    HCalls Try.prog fn_scarpalike_Block #[.int .i64 (64 : Int), .int .i64 k] h fun r vh => ∃ c : Sl, r = .slice c.base c.len c.cap ∧
      HCalls Try.prog fn_zdev_Dev_Append #[dp a, .int .i64 i, .slice c.base c.len c.cap] vh fun r2 vh2 => ∃ c8 : Int, ∃ c9 : Int, r2 = .tuple #[.int .i64 c8, .int .i64 c9] ∧ K c8 c9 vh2 := by
  refine (Block_spec 64 k (by omega) h).mono ?_
  rintro _ h1 ⟨u, rfl, ou, lu, e1⟩
  refine ⟨u, rfl, ?_⟩
  have hdom : ∀ F, DevAt h0.size F h1 a x → (∀ b, F b ≠ 0 → b < h.size) → HCalls Try.prog fn_zdev_Dev_Append #[dp a, .int .i64 i, .slice u.base u.len u.cap] h1 fun r h' => r = .tuple #[.int .i64 (x.append i (blockL 64 k)).1.1, .int .i64 (x.append i (blockL 64 k)).1.2] ∧ DevTo h0.size F h1 h' a (x.append i (blockL 64 k)).2 := fun F hF hd =>
    Append_spec hF (t.heap.trans e1).size i ou.toRd fun q hq => by
      have := (ou.lt hq).1
      rcases Nat.eq_zero_or_pos (F q.block) with h | h
      · exact h
      · have := hd q.block (by omega); omega
  obtain ⟨F, G, E, t1, t2, t3, t4, t5, t6, t7⟩ := t
  refine (hdom F (t1.ext e1) fun b hb => (t1.dom b hb).2).mono ?_
  rintro _ h2 ⟨rfl, F', x', g, ch⟩
  refine ⟨_, _, rfl, hK h2 ⟨F', G, E, x', (t2.ext e1).frame t4 ch, (t3.ext e1).frame t5 ch, t4.grow g (t2.ext e1), t5.grow g (t3.ext e1), t6, ch.ext (t7.trans e1) fun b hb => t1.F0 hb⟩⟩

theorem Read_to {lo : Nat} {F : Nat → Nat} {h : Hp} {db : Nat} {d : Dv} (x : DevAt lo F h db d) (k q : Nat) (hk : k < d.n) (hq : q < (d.z k).rows.length) :
    HCalls Try.prog fn_zdev_Dev_Read #[dp db, .int .i64 (k : Int), .int .i64 (q : Int)] h fun r h' => (∃ s : Sl, r = .tuple #[.slice s.base s.len s.cap, .int .i64 0] ∧ Own h.size 1 h' s ((d.z k).rows[q].map bv) ∧ s.len = (d.z k).rows[q].length) ∧ DevTo lo F h h' db d.read1 := by
  refine (Read_spec x k q).mono ?_
  rintro _ h' ⟨s, rfl, os, ls, x', c⟩
  have hrd : d.read (k : Int) (q : Int) = (((d.z k).rows[q], 0), d.read1) := by
    unfold Dv.read
    rw [if_neg (by omega), Int.toNat_natCast, if_neg (by omega), Int.toNat_natCast, List.getD_eq_getElem?_getD, List.getElem?_eq_getElem hq]; rfl
  rw [hrd] at os ls x' ⊢
  exact ⟨⟨s, rfl, os, ls⟩, .of x' c⟩

theorem ZdevApart_law {h : Hp} (n : Int) (_ : (Lit.int .i64 n).wf = true) (s : Sl) (l : List Int) (w : InI .i64 h s l) : HCalls Try.prog fn_scarplaw9_ZdevApart #[.int .i64 n, .slice s.base s.len s.cap] h (Yes h) := by
  apply scarplaw9_ZdevApart_vc
  unfold vcscarplaw9_ZdevApart
  have hl := w.len
  refine IfB.dec (fun _ => aw9 (.refl _)) (fun h0 => IfB.dec (fun _ => aw9 (.refl _)) (fun h60 => IfB.dec (fun _ => aw9 (.refl _)) (fun hm60 => ?_)))
  obtain ⟨n, rfl⟩ : ∃ k : Nat, n = k := ⟨n.toNat, by omega⟩
  refine (least_spec h).mono ?_
  rintro _ h1 ⟨rfl, e1⟩
  refine ⟨_, _, rfl, newL e1 8 96 (by omega) fun db h2 x2 _ _ => .no rfl (.no rfl ?_)⟩
  -- so many blocks
  refine ⟨fun i m h' => ∃ (j : Nat) (d : Dv), i = j ∧ m + j = n ∧ DevL h h' db d ∧ Live d ∧ d.n = 8 ∧ d.size = 96 ∧ d.ops = j ∧ (d.z 2).rows = (List.range j).map fun (i : Nat) => blockL 64 (i : Int), n, ⟨0, _, rfl, rfl, x2, new_live 8 96, rfl, rfl, rfl, by rw [Dv.new_z]; rfl⟩, ?_⟩
  rintro _ _ m h4 ⟨j, d, rfl, hm, x, lv, hn, hs, ho, hr⟩
  have hrl : (d.z 2).rows.length = j := by rw [hr]; simp
  have wf := x.wf
  have hz2 : 2 < d.zs.length := by have := wf.n; omega
  refine IfB.dec (fun hlt => ?_) (fun hge => ?_)
  · refine blkApp x (2 : Nat) j fun h7 x7 => ?_
    rw [append_live lv (by omega) (blockL_length _ _), if_neg (by omega)] at x7
    refine ⟨m - 1, by omega, j + 1, _, by rw [iAdd64 (by omega)]; push_cast; rfl, by omega, x7, lv.tick.setZ _ _, hn, hs, ?_, ?_⟩
    · show iAdd .i64 d.ops 1 = _
      rw [ho, iAdd64 (by omega)]; push_cast; rfl
    · have hset : (d.tick.setZ 2 ⟨(d.z 2).rows ++ [blockL 64 (j : Int)], (d.z 2).good⟩).z 2 = ⟨(d.z 2).rows ++ [blockL 64 (j : Int)], (d.z 2).good⟩ := by rw [d.tick.z_set hz2, if_pos rfl]
      rw [hset, hr, List.range_succ, List.map_append]; rfl
  obtain rfl : j = n := by omega
  refine flushL x fun h5 x5 => ?_
  rw [flush_live lv] at x5
  have lv5 : Live d.tick.flushed := lv.tick
  have ho5 : d.tick.flushed.ops = ((j + 1 : Nat) : Int) := by
    show iAdd .i64 d.ops 1 = _
    rw [ho, iAdd64 (by omega)]; push_cast; rfl
  have hz5 : (d.tick.flushed).z 2 = ⟨(d.z 2).rows, (d.z 2).rows.length⟩ := by rw [Dv.flushed_z]; rfl
  have hn5 : d.tick.flushed.n = 8 := hn
  have hs5 : d.tick.flushed.size = 96 := hs
  generalize d.tick.flushed = d5 at *
  obtain ⟨⟨F, x5⟩, e5⟩ := x5
  refine (Copy_spec x5).mono ?_
  rintro _ h6 ⟨e6, G, xb, rfl, x6⟩
  refine ⟨_, rfl, ?_⟩
  intro h7 h8
  have e7 : Ext h6 h7 := alc_ext _ _ _
  have e8 : Ext h7 h8 := alc_ext _ _ _
  have y8 := x5.ext (e6.trans (e7.trans e8))
  refine (Crash_spec y8 (s := Sl.mk (some (nw h6)) 1 1) (t := Sl.mk (some (nw h7)) 1 1) (picks := [5]) (torn := [1]) rfl ((RdC.alc h6 _ _).ext e8) rfl (RdC.alc h7 _ _)).mono ?_
  rintro _ h9 ⟨e9, E, yb, rfl, x9⟩
  have yz : (d5.crash [5] [1]).z 2 = ⟨(d.z 2).rows, (d.z 2).rows.length⟩ := by
    rw [Dv.crash_z _ _ _ (by omega), hz5]
    have hp : pickL [5] 2 = some 5 := rfl
    have htt : pickL [1] 2 = some 1 := rfl
    have hk : (⟨(d.z 2).rows, (d.z 2).rows.length⟩ : Zn).keep (some 5) = (d.z 2).rows.length := by
      simp only [Zn.keep]
      rw [Nat.sub_self]
      have : ((5 : Int) % ((0 + 1 : Nat) : Int)).toNat = 0 := by decide
      rw [this]; rfl
    rw [hp, htt]
    unfold Zn.crash Zn.tornT
    simp only [hk]
    rw [if_neg (by simp), List.append_nil, List.take_length]
  have yn : (d5.crash [5] [1]).n = 8 := hn5
  have ylv : Live (d5.crash [5] [1]) := ⟨rfl, rfl⟩
  have yo : (d5.crash [5] [1]).ops = 0 := rfl
  generalize d5.crash [5] [1] = dy at *
  have t9 : Tri h h9 db xb yb d5 d5 dy := by
    have lo5 := e5.size
    have s6 := e6.size
    have s8 := (e7.trans e8).size
    refine ⟨F, G, E, y8.ext e9, ?_, ?_, fun b hb => ?_, fun b hb => ?_, fun b hb => ?_, ((e5.trans e6).trans (e7.trans e8)).trans e9⟩
    · obtain ⟨w', zs, zb, q⟩ := (x6.ext (e7.trans e8)).ext e9
      exact ⟨w', zs, zb, fun b hb => ⟨by have := (q.dom b hb).1; omega, (q.dom b hb).2⟩, q.role, q.row, q.own, q.arr, q.len, q.zone⟩
    · obtain ⟨w', zs, zb, q⟩ := x9
      exact ⟨w', zs, zb, fun b hb => ⟨by have := (q.dom b hb).1; omega, (q.dom b hb).2⟩, q.role, q.row, q.own, q.arr, q.len, q.zone⟩
    · rcases Nat.eq_zero_or_pos (G b) with h | h
      · exact h
      · have := (x6.dom b (by omega)).1; have := (x5.dom b hb).2; omega
    · rcases Nat.eq_zero_or_pos (E b) with h | h
      · exact h
      · have := (x9.dom b (by omega)).1; have := (x5.dom b hb).2; omega
    · rcases Nat.eq_zero_or_pos (E b) with h | h
      · exact h
      · have := (x9.dom b (by omega)).1; have := (x6.dom b hb).2; omega
  refine ⟨_, rfl, .no rfl (.no rfl ?_)⟩
  have ops : ∀ {h' : Hp} {a b c : Nat} {x y z : Dv}, Tri h h' a b c x y z → HCalls Try.prog fn_zdev_Dev_Ops #[dp a] h' fun r h'' => r = .int .i64 x.ops ∧ h'' = h' := fun ⟨_, _, _, t1, _⟩ => (Ops_spec t1).mono fun _ _ ⟨h1, h2⟩ => ⟨h2, h1⟩
  refine (ops t9.rot).mono ?_
  rintro _ h9 ⟨rfl, rfl⟩
  refine ⟨_, rfl, .no (by rw [ho5, iAdd64 (by omega)]; simp) ?_⟩
  refine (ops t9.rot.rot).mono ?_
  rintro _ h9 ⟨rfl, rfl⟩
  refine ⟨_, rfl, .no (by rw [yo]; rfl) ?_⟩
  -- what is done to the first
  refine ⟨fun i m h' => ∃ (k : Nat) (d' : Dv), i = k ∧ m + k = l.length ∧ Tri h h' db xb yb d' d5 dy, l.length, ⟨0, d5, rfl, rfl, t9⟩, ?_⟩
  rintro _ _ m h10 ⟨k, d', rfl, hm, t10⟩
  refine IfB.dec (fun hlt => ?_) (fun hge => ?_)
  · have hk : k < l.length := by omega
    refine w.ix t10.heap k hk ⟨by omega, IfB.eq (fun _ => ?_) (fun _ => ?_)⟩
    · refine (t10.op (P := fun r => r = .int .i64 (d'.reset 2).1) (x' := (d'.reset 2).2) fun F hF => Reset_spec hF 2).mono ?_
      rintro _ h11 ⟨rfl, t11⟩
      exact ⟨_, rfl, m - 1, by omega, k + 1, _, by rw [iAdd64 (by omega)]; push_cast; rfl, by omega, t11⟩
    · refine w.ix t10.heap k hk ?_
      refine blkAppT t10 2 l[k] fun h11 t11 => ?_
      exact ⟨m - 1, by omega, k + 1, _, by rw [iAdd64 (by omega)]; push_cast; rfl, by omega, t11⟩
  refine (t10.op (P := fun r => r = .tuple #[]) (x' := d'.cutAt 0) fun F hF => (Cut_spec hF (n := 0) (by omega)).mono fun _ _ ⟨h1, h2, h3⟩ => ⟨h1, .of h2 h3⟩).mono ?_
  rintro _ h11 ⟨rfl, t11⟩
  refine ⟨rfl, ?_⟩
  have ptr : ∀ {h' : Hp} {a b c : Nat} {x y z : Dv}, Tri h h' a b c x y z → x.n = 8 → HCalls Try.prog fn_zdev_Dev_Pointer #[dp a, .int .i64 (2 : Int)] h' fun r h'' => r = .tuple #[.int .i64 ((x.z 2).rows.length : Int), .int .i64 0] ∧ h'' = h' := by
    rintro h' a b c x y z ⟨_, _, _, t1, _⟩ hx
    refine (Pointer_spec t1 2).mono ?_
    rintro _ _ ⟨rfl, ⟨hn, rfl⟩ | ⟨k, hk1, hk2, rfl⟩⟩
    · exfalso; omega
    · obtain rfl : k = 2 := by omega
      exact ⟨rfl, rfl⟩
  refine (ptr t11.rot hn5).mono ?_
  rintro _ h11 ⟨rfl, rfl⟩
  refine ⟨_, _, rfl, ?_⟩
  refine (ptr t11.rot.rot yn).mono ?_
  rintro _ h11 ⟨rfl, rfl⟩
  refine ⟨_, _, rfl, .no rfl (.no rfl (.no (by rw [hz5]; simp [hrl]) (.no (by rw [yz]; simp [hrl]) ?_)))⟩
  have off : ∀ {h' : Hp} {a b c : Nat} {x y z : Dv}, Tri h h' a b c x y z → HCalls Try.prog fn_zdev_Dev_Off #[dp a] h' fun r h'' => r = .bool x.off ∧ h'' = h' := fun ⟨_, _, _, t1, _⟩ => (Off_spec t1).mono fun _ _ ⟨h1, h2⟩ => ⟨h2, h1⟩
  refine (off t11.rot).mono ?_
  rintro _ h11 ⟨rfl, rfl⟩
  refine ⟨_, rfl, .no lv5.2 ?_⟩
  refine (off t11.rot.rot).mono ?_
  rintro _ h11 ⟨rfl, rfl⟩
  refine ⟨_, rfl, .no ylv.2 ?_⟩
  refine ⟨fun i m h' => ∃ (k : Nat) (dx dy : Dv), i = k ∧ m + k = j ∧ Tri h h' xb yb db dx dy (d'.cutAt 0) ∧ Live dx ∧ dx.n = 8 ∧ dx.size = 96 ∧ dy.n = 8 ∧ (dx.z 2).rows = (d.z 2).rows ∧ (dy.z 2).rows = (d.z 2).rows, j, ⟨0, d5, dy, rfl, rfl, t11.rot, lv5, hn5, hs5, yn, by rw [hz5], by rw [yz]⟩, ?_⟩
  rintro _ _ m h12 ⟨k, dx, dy, rfl, hm, t12, lvx, hnx, hsx, hny, hrx, hry⟩
  refine IfB.dec (fun hlt => ?_) (fun hge => ?_)
  · have hk : k < j := by omega
    have hkx : k < (dx.z 2).rows.length := by rw [hrx]; omega
    have hky : k < (dy.z 2).rows.length := by rw [hry]; omega
    have gx : (dx.z 2).rows[k] = blockL 64 (k : Int) := by
      have : (dx.z 2).rows[k]? = some (blockL 64 (k : Int)) := by rw [hrx, hr]; simp [hk]
      rw [List.getElem?_eq_getElem hkx] at this; exact Option.some.inj this
    have gy : (dy.z 2).rows[k] = blockL 64 (k : Int) := by
      have : (dy.z 2).rows[k]? = some (blockL 64 (k : Int)) := by rw [hry, hr]; simp [hk]
      rw [List.getElem?_eq_getElem hky] at this; exact Option.some.inj this
    obtain ⟨G, E, F, q1, q2, q3, q4, q5, q6, q7⟩ := t12
    refine (Read_to q1 2 k (by omega) hkx).mono ?_
    rintro _ h13 ⟨⟨u, rfl, ou, lu⟩, G', q1', g', c'⟩
    rw [gx] at ou
    refine ⟨u, _, rfl, ?_⟩
    have q2' := q2.frame q4 c'
    have q3' := q3.frame q5 c'
    have q4' := q4.grow g' q2
    refine (Read_to q2' 2 k (by omega) hky).mono ?_
    rintro _ h14 ⟨⟨v, rfl, ov, lv'⟩, E', q2'', g'', c''⟩
    rw [gy] at ov
    refine ⟨v, _, rfl, .no rfl (.no rfl ?_)⟩
    have s13 := c'.size
    have ou14 : Rd 1 h14 u ((blockL 64 (k : Int)).map bv) := ou.toRd.eq fun a ha => c''.block _ (ou.lt ha).2 (by
      have := (ou.lt ha).1
      rcases Nat.eq_zero_or_pos (E a.block) with h | h
      · exact h
      · have := (q2.dom a.block (by omega)).2; omega)
    have t14 : Tri h h14 xb yb db dx.read1 dy.read1 (d'.cutAt 0) :=
      ⟨G', E', F, q1'.frame q4'.symm c'', q2'', q3'.frame q6 c'', (q4'.symm.grow g'' q1').symm, q5.grow g' q3, q6.grow g'' q3', c''.ext (c'.ext q7 fun b hb => q1.F0 hb) fun b hb => q2'.F0 hb⟩
    refine (Block_spec 64 k (by omega) h14).mono ?_
    rintro _ h15 ⟨z, rfl, oz, lz, e15⟩
    refine ⟨z, rfl, ?_⟩
    have hbl : (blockL 64 (k : Int)).length = 64 := blockL_length 64 _
    refine (Bytes_spec (ou14.ext e15) oz.toRd (by omega)).mono ?_
    rintro _ h15 ⟨rfl, rfl⟩
    refine ⟨_, rfl, .no (by simp) ?_⟩
    refine (Bytes_spec ((ov.ext e15).toRd) (ou14.ext e15) (by omega)).mono ?_
    rintro _ h15 ⟨rfl, rfl⟩
    exact ⟨_, rfl, .no (by simp) ⟨m - 1, by omega, k + 1, dx.read1, dy.read1, by rw [iAdd64 (by omega)]; push_cast; rfl, by omega, t14.ext e15, lvx, hnx, hsx, hny, hrx, hry⟩⟩
  · refine blkAppT t12 (2 : Nat) 1 fun h13 t13 => ?_
    rw [append_live lvx (by omega) (blockL_length _ _), if_neg (by rw [hrx]; omega)] at t13 ⊢
    exact .yes rfl (aw9 t13.heap)

end Go.Proofs.Ytomeglmlhmpbhaa
