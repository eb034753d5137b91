/-
  scarpref9.Alloc: what each function answers, said of a list of zones.
-/
import Derived.Test.YtmnkafplmbngnaaAlloc
namespace Go.Proofs.Ytmnkafplmbngnaa
set_option linter.unusedVariables false
set_option linter.unusedSimpArgs false

/-- a block that is a row. -/
def Row (h : Hp) (b : Nat) (l : List Value) : Prop := ∃ e, h[b]? = some (.cells l.toArray e (0, 0))
theorem Row.eq {h h' : Hp} {b : Nat} {l : List Value} (x : Row h b l) (e : h'[b]? = h[b]?) : Row h' b l := by
  obtain ⟨t, ht⟩ := x; exact ⟨t, by rw [e, ht]⟩
theorem Row.lt {h : Hp} {b : Nat} {l : List Value} (x : Row h b l) : b < h.size := by obtain ⟨t, ht⟩ := x; exact blk_lt ht
theorem Row.get {h : Hp} {b : Nat} {l : List Value} (x : Row h b l) {i : Nat} {v : Value} (hv : l[i]? = some v) : hcell h ((⟨b, 0, none⟩ : Addr).add i) = some v := by
  obtain ⟨t, ht⟩ := x; rw [add_none, hcell_blk ht]; simpa using hv
theorem Row.set {h : Hp} {b : Nat} {l : List Value} (x : Row h b l) {i : Nat} (hi : i < l.length) (v : Value) :
    StOk h ((⟨b, 0, none⟩ : Addr).add i) ∧ Row (hset h ((⟨b, 0, none⟩ : Addr).add i) v) b (l.set i v) ∧ (∀ k, k ≠ b → (hset h ((⟨b, 0, none⟩ : Addr).add i) v)[k]? = h[k]?) ∧ (hset h ((⟨b, 0, none⟩ : Addr).add i) v).size = h.size := by
  obtain ⟨t, ht⟩ := x
  refine ⟨⟨?_, ?_⟩, ⟨t, ?_⟩, fun k hk => hset_other _ _ _ (by rw [add_block]; exact hk), size_hset _ _ _⟩
  · rw [add_none, hcell_blk ht]; simp [hi]
  · rw [add_none]; exact hfroz_blk ht _
  · rw [add_none, hset_blk ht]; simp
theorem Row.alc (h : Hp) (l : List Value) (t : Nat) : Row (alc h l t) h.size l := ⟨t, alc_new h l t⟩

theorem map_set_same {α β : Type} (f : α → β) (l : List α) {i : Nat} (hi : i < l.length) (y : β) (hy : f l[i] = y) : (l.map f).set i y = l.map f := by
  subst hy
  have := @List.set_getElem_self _ (l.map f) i (by simpa using hi)
  simpa using this
def frV (zs : List (Bool × Nat)) : List Value := zs.map fun z => .bool (!z.1)
def wrV (zs : List (Bool × Nat)) : List Value := zs.map fun z => iv z.2
structure RA (h : Hp) (rb fb wb : Nat) (zs : List (Bool × Nat)) (sp : Nat) : Prop where
  ne1 : rb ≠ fb
  ne2 : rb ≠ wb
  ne3 : fb ≠ wb
  box : Row h rb [.slice (some ⟨fb, 0, none⟩) zs.length zs.length, .slice (some ⟨wb, 0, none⟩) zs.length zs.length, .int .i64 (sp : Int)]
  fr : Row h fb (frV zs)
  wr : Row h wb (wrV zs)
theorem RA.eq {h h' : Hp} {rb fb wb : Nat} {zs : List (Bool × Nat)} {sp : Nat} (x : RA h rb fb wb zs sp) (e1 : h'[rb]? = h[rb]?) (e2 : h'[fb]? = h[fb]?) (e3 : h'[wb]? = h[wb]?) : RA h' rb fb wb zs sp :=
  ⟨x.ne1, x.ne2, x.ne3, x.box.eq e1, x.fr.eq e2, x.wr.eq e3⟩
theorem RA.ext {h h' : Hp} {rb fb wb : Nat} {zs : List (Bool × Nat)} {sp : Nat} (x : RA h rb fb wb zs sp) (e : Ext h h') : RA h' rb fb wb zs sp := x.eq (e.block _ x.box.lt) (e.block _ x.fr.lt) (e.block _ x.wr.lt)
theorem RA.sl0 {h : Hp} {rb fb wb : Nat} {zs : List (Bool × Nat)} {sp : Nat} (x : RA h rb fb wb zs sp) : hcell h ⟨rb, 0, none⟩ = some (.slice (some ⟨fb, 0, none⟩) zs.length zs.length) := by
  have := x.box.get (i := 0) (v := .slice (some ⟨fb, 0, none⟩) zs.length zs.length) rfl
  rwa [add_none] at this
theorem RA.sl1 {h : Hp} {rb fb wb : Nat} {zs : List (Bool × Nat)} {sp : Nat} (x : RA h rb fb wb zs sp) : hcell h ((⟨rb, 0, none⟩ : Addr).add 1) = some (.slice (some ⟨wb, 0, none⟩) zs.length zs.length) := x.box.get (i := 1) rfl
theorem RA.spr {h : Hp} {rb fb wb : Nat} {zs : List (Bool × Nat)} {sp : Nat} (x : RA h rb fb wb zs sp) : hcell h ((⟨rb, 0, none⟩ : Addr).add 2) = some (.int .i64 (sp : Int)) := x.box.get (i := 2) rfl
theorem RA.free {h : Hp} {rb fb wb : Nat} {zs : List (Bool × Nat)} {sp : Nat} (x : RA h rb fb wb zs sp) {i : Nat} (hi : i < zs.length) : hcell h ((⟨fb, 0, none⟩ : Addr).add ((i : Int).toNat * 1)) = some (.bool (!tk zs i)) :=
  x.fr.get (by rw [tk_get hi]; simp [frV, hi])
theorem RA.wear {h : Hp} {rb fb wb : Nat} {zs : List (Bool × Nat)} {sp : Nat} (x : RA h rb fb wb zs sp) {i : Nat} (hi : i < zs.length) : hcell h ((⟨wb, 0, none⟩ : Addr).add ((i : Int).toNat * 1)) = some (.int .i64 (Go.Proofs.Ytmnkafplmbngnaa.wr zs i : Int)) :=
  x.wr.get (by rw [wr_get hi]; simp [wrV, iv, hi])
/-- two old blocks alone are others. -/
structure Only2 (f w : Nat) (h h' : Hp) : Prop where
  size : h.size ≤ h'.size
  block : ∀ b, b < h.size → b ≠ f → b ≠ w → h'[b]? = h[b]?
theorem Ext.only2 {h h' : Hp} (e : Ext h h') (f w : Nat) : Only2 f w h h' := ⟨e.size, fun b hb _ _ => e.block b hb⟩
theorem Only2.trans {f w : Nat} {a b c : Hp} (h : Only2 f w a b) (g : Only2 f w b c) : Only2 f w a c := ⟨Nat.le_trans h.size g.size, fun k hk h1 h2 => (g.block k (Nat.lt_of_lt_of_le hk h.size) h1 h2).trans (h.block k hk h1 h2)⟩
theorem Only2.keep {f w n : Nat} {h h' : Hp} (o : Only2 f w h h') (h1 : n ≤ f) (h2 : n ≤ w) (hn : n ≤ h.size) : Keep n h h' := ⟨o.size, fun b hb => o.block b (by omega) (by omega) (by omega)⟩
theorem RA.setF {h : Hp} {rb fb wb : Nat} {zs : List (Bool × Nat)} {sp : Nat} (x : RA h rb fb wb zs sp) {i : Nat} (hi : i < zs.length) (v : Bool) :
    StOk h ((⟨fb, 0, none⟩ : Addr).add ((i : Int).toNat * 1)) ∧ RA (hset h ((⟨fb, 0, none⟩ : Addr).add ((i : Int).toNat * 1)) (.bool (!v))) rb fb wb (zs.set i (v, Go.Proofs.Ytmnkafplmbngnaa.wr zs i)) sp ∧ Only2 fb wb h (hset h ((⟨fb, 0, none⟩ : Addr).add ((i : Int).toNat * 1)) (.bool (!v))) := by
  simp only [Int.toNat_natCast, Nat.mul_one]
  obtain ⟨ok, r, o, s⟩ := x.fr.set (i := i) (by simpa [frV] using hi) (.bool (!v))
  refine ⟨ok, ⟨x.ne1, x.ne2, x.ne3, ?_, ?_, ?_⟩, ⟨by omega, fun b _ h1 _ => o b h1⟩⟩
  · have := x.box.eq (o rb x.ne1); simpa using this
  · have e : frV (zs.set i (v, Go.Proofs.Ytmnkafplmbngnaa.wr zs i)) = (frV zs).set i (.bool (!v)) := by simp [frV, List.map_set]
    rw [e]; exact r
  · have e : wrV (zs.set i (v, Go.Proofs.Ytmnkafplmbngnaa.wr zs i)) = wrV zs := by
      rw [wr_get hi]; simp only [wrV, List.map_set]
      exact map_set_same _ zs hi _ rfl
    rw [e]; exact x.wr.eq (o wb (Ne.symm x.ne3))
theorem RA.setW {h : Hp} {rb fb wb : Nat} {zs : List (Bool × Nat)} {sp : Nat} (x : RA h rb fb wb zs sp) {i : Nat} (hi : i < zs.length) (v : Nat) :
    StOk h ((⟨wb, 0, none⟩ : Addr).add ((i : Int).toNat * 1)) ∧ RA (hset h ((⟨wb, 0, none⟩ : Addr).add ((i : Int).toNat * 1)) (.int .i64 (v : Int))) rb fb wb (zs.set i (tk zs i, v)) sp ∧ Only2 fb wb h (hset h ((⟨wb, 0, none⟩ : Addr).add ((i : Int).toNat * 1)) (.int .i64 (v : Int))) := by
  simp only [Int.toNat_natCast, Nat.mul_one]
  obtain ⟨ok, r, o, s⟩ := x.wr.set (i := i) (by simpa [wrV] using hi) (.int .i64 (v : Int))
  refine ⟨ok, ⟨x.ne1, x.ne2, x.ne3, ?_, ?_, ?_⟩, ⟨by omega, fun b _ _ h2 => o b h2⟩⟩
  · have := x.box.eq (o rb x.ne2); simpa using this
  · have e : frV (zs.set i (tk zs i, v)) = frV zs := by
      rw [tk_get hi]; simp only [frV, List.map_set]
      exact map_set_same _ zs hi _ rfl
    rw [e]; exact x.fr.eq (o fb x.ne3)
  · have e : wrV (zs.set i (tk zs i, v)) = (wrV zs).set i (.int .i64 (v : Int)) := by simp [wrV, iv, List.map_set]
    rw [e]; exact r

theorem refList_spec {h : Hp} {rb fb wb : Nat} {zs : List (Bool × Nat)} {sp : Nat} (x : RA h rb fb wb zs sp) (h64 : zs.length ≤ 64) :
    HCalls Try.prog fn_scarpref9_Alloc_List #[.pointer (some ⟨rb, 0, none⟩)] h fun r h' => ∃ s : Sl, r = .slice s.base s.len s.cap ∧ Own h.size 1 h' s ((freeL zs).map iv) ∧ s.len = (freeL zs).length ∧ Ext h h' := by
  apply scarpref9_Alloc_List_vc
  unfold vcscarpref9_Alloc_List
  refine ⟨fun out i m h' => ∃ k : Nat, i = k ∧ m + k = zs.length ∧ Ext h h' ∧ Own h.size 1 h' out ((freeUp zs k).map iv), zs.length, ⟨0, rfl, rfl, .refl h, by simpa [freeUp] using Own.nil h.size 1 h⟩, ?_⟩
  rintro _ out _ m h1 ⟨k, rfl, hm, e1, ob⟩
  have hbl := ob.len
  have hfl := freeUp_le zs k
  rw [List.length_map] at hbl
  have x1 := x.ext e1
  refine ⟨_, rfl, ⟨some ⟨fb, 0, none⟩, zs.length, zs.length⟩, x1.sl0, IfB.dec (fun hlt => ?_) (fun hge => ?_)⟩
  · have hk : k < zs.length := by simp only at hlt; omega
    have nx : iAdd .i64 (k : Int) (1 : Int) = ((k + 1 : Nat) : Int) := by rw [iAdd64 (by omega)]; push_cast; rfl
    refine ⟨_, rfl, ⟨some ⟨fb, 0, none⟩, zs.length, zs.length⟩, x1.sl0, _, rfl, by omega, hlt, _, x1.free hk, IfB.not (IfB.intro (fun ht => ?_) (fun ht => ?_))⟩
    · refine ⟨m - 1, by omega, k + 1, nx, by omega, e1, ?_⟩
      rw [freeUp_succ, ht]; simpa using ob
    · intro h2
      refine AppC_new (lo := h.size) (l := (freeUp zs k).map iv) (news := [iv k]) (n := 1) rfl ob e1.size rfl (by simp [iv, cellOk]) (by omega) (by omega) fun r h4 o4 l4 k4 _ => ?_
      refine ⟨m - 1, by omega, k + 1, nx, by omega, (e1.toKeep.trans k4).ext, ?_⟩
      rw [freeUp_succ, ht]; simpa using o4
  · have hk : k = zs.length := by simp only at hge; omega
    subst hk
    exact ⟨out, rfl, ob, by unfold freeL; omega, e1⟩
theorem refCount_spec {h : Hp} {rb fb wb : Nat} {zs : List (Bool × Nat)} {sp : Nat} (x : RA h rb fb wb zs sp) (h64 : zs.length ≤ 64) :
    HCalls Try.prog fn_scarpref9_Alloc_Count #[.pointer (some ⟨rb, 0, none⟩)] h fun r h' => r = .int .i64 ((freeL zs).length : Int) ∧ Ext h h' := by
  apply scarpref9_Alloc_Count_vc
  unfold vcscarpref9_Alloc_Count
  refine (refList_spec x h64).mono ?_
  rintro _ h1 ⟨s, rfl, o, l, e⟩
  exact ⟨s, rfl, by rw [l], e⟩
theorem freeL_mem {zs : List (Bool × Nat)} {i : Nat} : i ∈ freeL zs ↔ i < zs.length ∧ tk zs i = false := by
  unfold freeL freeUp; rw [List.mem_filter, List.mem_range]; simp
theorem freeL_sorted (zs : List (Bool × Nat)) : (freeL zs).Pairwise (· < ·) := (List.pairwise_lt_range).filter _
/-- worn least of the first so many of the list. -/
def Best9 (zs : List (Bool × Nat)) (l : List Nat) (i b : Nat) : Prop := ∃ (q : Nat) (hq : q < l.length), l[q] = b ∧ (∀ (r : Nat) (hr : r < l.length), r < i → wr zs b ≤ wr zs l[r]) ∧ (∀ (r : Nat) (hr : r < l.length), r < q → wr zs b < wr zs l[r])
theorem Best9.least {zs : List (Bool × Nat)} {b : Nat} (x : Best9 zs (freeL zs) (freeL zs).length b) : Least zs zs.length b := by
  obtain ⟨q, hq, hb, h1, h2⟩ := x
  have hm : b ∈ freeL zs := hb ▸ List.getElem_mem hq
  obtain ⟨hlt, hf⟩ := freeL_mem.1 hm
  refine ⟨hlt, hf, fun i hi hfi => ?_, fun i hi hfi => ?_⟩
  · obtain ⟨r, hr, rfl⟩ := List.mem_iff_getElem.1 (freeL_mem.2 ⟨hi, hfi⟩)
    exact h1 r hr hr
  · obtain ⟨r, hr, rfl⟩ := List.mem_iff_getElem.1 (freeL_mem.2 ⟨Nat.lt_trans hi hlt, hfi⟩)
    refine h2 r hr ?_
    rcases Nat.lt_or_ge r q with h | h
    · exact h
    · exfalso
      rcases Nat.eq_or_lt_of_le h with h | h
      · subst h; omega
      · have := List.pairwise_iff_getElem.1 (freeL_sorted zs) q r hq hr h; omega
def RTakeR (h : Hp) (rb fb wb : Nat) (zs : List (Bool × Nat)) (sp : Nat) (reserve : Bool) (r : Value) (h' : Hp) : Prop :=
  ((freeL zs).length = 0 ∨ (reserve = false ∧ (freeL zs).length ≤ sp)) ∧ r = .tuple #[.int .i64 0, .int .i64 9] ∧ Ext h h' ∨
  ((freeL zs).length ≠ 0 ∧ ¬ (reserve = false ∧ (freeL zs).length ≤ sp)) ∧ ∃ k : Nat, Least zs zs.length k ∧ r = .tuple #[.int .i64 (k : Int), .int .i64 0] ∧ RA h' rb fb wb (zs.set k (true, wr zs k)) sp ∧ Only2 fb wb h h'
theorem refTake_loop {h : Hp} {rb fb wb : Nat} {zs : List (Bool × Nat)} {sp : Nat} (x : RA h rb fb wb zs sp) (h64 : zs.length ≤ 64) (hne : (freeL zs).length ≠ 0) {c : Sl} {lo : Nat} (oc : Own lo 1 h c ((freeL zs).map iv)) {R : Value → Hp → Prop}
    (hR : ∀ (k : Nat) (h' : Hp), Least zs zs.length k → RA h' rb fb wb (zs.set k (true, wr zs k)) sp → Only2 fb wb h h' → R (.tuple #[.int .i64 (k : Int), .int .i64 0]) h') :
    ∃ a2 : Addr, c.base = some a2 ∧ 0 ≤ (0 : Int) ∧ (0 : Int) < (c.len : Int) ∧
        ∃ c2 : Int, hcell h (a2.add (((0 : Int)).toNat * 1)) = some (.int .i64 c2) ∧
        ∃ (vI : Int → Int → Nat → Hp → Prop) (n : Nat), vI c2 (0 : Int) n h ∧
        ∀ _junk : Nat → Value, ∀ k : Int, ∀ i : Int, ∀ (n1 : Nat) (vh1 : Hp), vI k i n1 vh1 →
        IfB (decide (i < (c.len : Int))) (∃ a3 : Addr, (some ⟨rb, 0, none⟩ : Option Addr) = some a3 ∧
          ∃ c3 : Sl, hcell vh1 (a3.add 1) = some (.slice c3.base c3.len c3.cap) ∧
          ∃ a4 : Addr, c.base = some a4 ∧ 0 ≤ i ∧ i < (c.len : Int) ∧
          ∃ c4 : Int, hcell vh1 (a4.add ((i).toNat * 1)) = some (.int .i64 c4) ∧
          ∃ a5 : Addr, c3.base = some a5 ∧ 0 ≤ c4 ∧ c4 < (c3.len : Int) ∧
          ∃ c5 : Int, hcell vh1 (a5.add ((c4).toNat * 1)) = some (.int .i64 c5) ∧
          ∃ a6 : Addr, (some ⟨rb, 0, none⟩ : Option Addr) = some a6 ∧
          ∃ c6 : Sl, hcell vh1 (a6.add 1) = some (.slice c6.base c6.len c6.cap) ∧
          ∃ a7 : Addr, c6.base = some a7 ∧ 0 ≤ k ∧ k < (c6.len : Int) ∧
          ∃ c7 : Int, hcell vh1 (a7.add ((k).toNat * 1)) = some (.int .i64 c7) ∧
          IfB (decide (c5 < c7)) (∃ a8 : Addr, c.base = some a8 ∧ 0 ≤ i ∧ i < (c.len : Int) ∧
            ∃ c8 : Int, hcell vh1 (a8.add ((i).toNat * 1)) = some (.int .i64 c8) ∧
            ∃ n2, n2 < n1 ∧ vI c8 (iAdd .i64 i (1 : Int)) n2 vh1)
          (∃ n2, n2 < n1 ∧ vI k (iAdd .i64 i (1 : Int)) n2 vh1))
        (∃ a9 : Addr, (some ⟨rb, 0, none⟩ : Option Addr) = some a9 ∧
          ∃ c9 : Sl, hcell vh1 a9 = some (.slice c9.base c9.len c9.cap) ∧
          ∃ a10 : Addr, c9.base = some a10 ∧ 0 ≤ k ∧ k < (c9.len : Int) ∧
          StOk vh1 (a10.add ((k).toNat * 1)) ∧
          let vh2 := hset vh1 (a10.add ((k).toNat * 1)) (.bool false);
          R (.tuple #[.int .i64 k, .int .i64 (0 : Int)]) vh2) := by
  have lc : (freeL zs).length = c.len := by simpa using oc.len
  have hcl := freeUp_le zs zs.length
  have hfl : (freeL zs).length ≤ zs.length := hcl
  have rd : ∀ (i : Nat) (hi : i < (freeL zs).length) {K : Int → Prop}, K ((freeL zs)[i] : Int) → ∃ a : Addr, c.base = some a ∧ 0 ≤ (i : Int) ∧ (i : Int) < (c.len : Int) ∧ ∃ v : Int, hcell h (a.add (((i : Int)).toNat * 1)) = some (.int .i64 v) ∧ K v := fun i hi K hK =>
    ix1 oc.rd (by simpa using lc) i rfl (by simpa using hi) fun a _ hc => ⟨_, by simpa [iv] using hc, hK⟩
  have r0 := rd 0 (by omega) (K := fun v => v = ((freeL zs)[0]'(by omega) : Int)) rfl
  obtain ⟨a, ba, b0, b1, _, rv, rfl⟩ := r0
  refine ⟨a, ba, b0, b1, _, rv, ?_⟩
  refine ⟨fun k i m h' => h = h' ∧ ∃ (j b : Nat), i = j ∧ k = b ∧ m + j = (freeL zs).length ∧ Best9 zs (freeL zs) j b, (freeL zs).length, ⟨rfl, 0, _, rfl, rfl, rfl, 0, by omega, rfl, fun r _ hr => by omega, fun r _ hr => by omega⟩, ?_⟩
  rintro _ _ _ m _ ⟨rfl, j, b, rfl, rfl, hm, hb⟩
  have hbm : b < zs.length := by
    obtain ⟨q, hq, e, _⟩ := hb
    exact (freeL_mem.1 (e ▸ List.getElem_mem hq)).1
  refine IfB.dec (fun hlt => ?_) (fun hge => ?_)
  · have hj : j < (freeL zs).length := by omega
    have hjm : (freeL zs)[j] < zs.length := (freeL_mem.1 (List.getElem_mem hj)).1
    have nx : iAdd .i64 (j : Int) (1 : Int) = ((j + 1 : Nat) : Int) := by rw [iAdd64 (by omega)]; push_cast; rfl
    refine ⟨_, rfl, ⟨some ⟨wb, 0, none⟩, zs.length, zs.length⟩, x.sl1, rd j hj ?_⟩
    refine ⟨_, rfl, by omega, by simp only; omega, _, x.wear hjm, _, rfl, ⟨some ⟨wb, 0, none⟩, zs.length, zs.length⟩, x.sl1, _, rfl, by omega, by simp only; omega, _, x.wear hbm, ?_⟩
    refine IfB.dec (fun hc => rd j hj ⟨m - 1, by omega, rfl, j + 1, _, nx, rfl, by omega, ?_⟩) (fun hc => ⟨m - 1, by omega, rfl, j + 1, b, nx, rfl, by omega, ?_⟩)
    · obtain ⟨q, hq, e, h1, h2⟩ := hb
      refine ⟨j, hj, rfl, fun r hr hrj => ?_, fun r hr hrj => ?_⟩
      · rcases Nat.lt_succ_iff_lt_or_eq.1 hrj with h | h
        · have := h1 r hr h; omega
        · subst h; exact Nat.le_refl _
      · have := h1 r hr hrj; omega
    · obtain ⟨q, hq, e, h1, h2⟩ := hb
      refine ⟨q, hq, e, fun r hr hrj => ?_, h2⟩
      rcases Nat.lt_succ_iff_lt_or_eq.1 hrj with h | h
      · exact h1 r hr h
      · subst h; omega
  · have hj : j = (freeL zs).length := by omega
    subst hj
    obtain ⟨ok, x', o'⟩ := x.setF hbm true
    exact ⟨_, rfl, ⟨some ⟨fb, 0, none⟩, zs.length, zs.length⟩, x.sl0, _, rfl, by omega, by simp only; omega, ok, hR b _ hb.least x' o'⟩
theorem refTake_spec {h : Hp} {rb fb wb : Nat} {zs : List (Bool × Nat)} {sp : Nat} (x : RA h rb fb wb zs sp) (h64 : zs.length ≤ 64) (reserve : Bool) :
    HCalls Try.prog fn_scarpref9_Alloc_Take #[.pointer (some ⟨rb, 0, none⟩), .bool reserve] h (RTakeR h rb fb wb zs sp reserve) := by
  apply scarpref9_Alloc_Take_vc
  unfold vcscarpref9_Alloc_Take
  refine (refList_spec x h64).mono ?_
  rintro _ h1 ⟨s, rfl, os, ls, e1⟩
  have x1 := x.ext e1
  refine ⟨_, rfl, IfB.eq (fun h0 => .inl ⟨.inl (by omega), rfl, e1⟩) (fun hne => ?_)⟩
  have hne' : (freeL zs).length ≠ 0 := by omega
  refine IfB.not (IfB.intro (fun hres => ?_) (fun hres => ?_))
  · subst hres
    exact refTake_loop x1 h64 hne' os fun k h' hl x' o' => .inr ⟨⟨hne', by simp⟩, k, hl, rfl, x', (e1.only2 _ _).trans o'⟩
  · subst hres
    refine ⟨_, rfl, _, x1.spr, IfB.dec (fun hle => .inl ⟨.inr ⟨rfl, by omega⟩, rfl, e1⟩) (fun hgt => ?_)⟩
    exact refTake_loop x1 h64 hne' os fun k h' hl x' o' => .inr ⟨⟨hne', by omega⟩, k, hl, rfl, x', (e1.only2 _ _).trans o'⟩
theorem refFree_spec {h : Hp} {rb fb wb : Nat} {zs : List (Bool × Nat)} {sp : Nat} (x : RA h rb fb wb zs sp) (i : Int) (hw : ∀ k : Nat, i = k → wr zs k < 9223372036854775807) :
    HCalls Try.prog fn_scarpref9_Alloc_Free #[.pointer (some ⟨rb, 0, none⟩), .int .i64 i] h fun r h' =>
      ((i < 0 ∨ (zs.length : Int) ≤ i) ∧ r = .int .i64 1 ∧ h' = h) ∨ ∃ k : Nat, i = k ∧ k < zs.length ∧ ((tk zs k = false ∧ r = .int .i64 14 ∧ h' = h) ∨ (tk zs k = true ∧ r = .int .i64 0 ∧ RA h' rb fb wb (zs.set k (false, wr zs k + 1)) sp ∧ Only2 fb wb h h')) := by
  apply scarpref9_Alloc_Free_vc
  unfold vcscarpref9_Alloc_Free
  have S0 : ∀ {h : Hp} {zs : List (Bool × Nat)} (x : RA h rb fb wb zs sp) {K : Sl → Prop}, K ⟨some ⟨fb, 0, none⟩, zs.length, zs.length⟩ → ∃ a1 : Addr, (some ⟨rb, 0, none⟩ : Option Addr) = some a1 ∧ ∃ c : Sl, hcell h a1 = some (.slice c.base c.len c.cap) ∧ K c := fun x K hK => ⟨_, rfl, ⟨some ⟨fb, 0, none⟩, _, _⟩, x.sl0, hK⟩
  refine IfB.dec (fun h1 => .inl ⟨.inl h1, rfl, rfl⟩) (fun h1 => S0 x (IfB.dec (fun h2 => .inl ⟨.inr h2, rfl, rfl⟩) (fun h2 => S0 x ?_)))
  obtain ⟨k, rfl⟩ : ∃ k : Nat, i = k := ⟨i.toNat, by omega⟩
  have hk : k < zs.length := by simp only at h2; omega
  have hlt : (k : Int) < ((zs.length : Nat) : Int) := by omega
  refine ⟨_, rfl, by omega, hlt, _, x.free hk, IfB.not (IfB.intro (fun ht => ?_) (fun ht => .inr ⟨k, rfl, hk, .inl ⟨ht, rfl, rfl⟩⟩))⟩
  obtain ⟨ok1, x1, o1⟩ := x.setF hk false
  have hk1 : k < (zs.set k (false, wr zs k)).length := by simpa using hk
  obtain ⟨ok2, x2, o2⟩ := x1.setW hk1 (wr zs k + 1)
  have hwk := hw k rfl
  refine S0 x ⟨_, rfl, by omega, hlt, ok1, _, rfl, ⟨some ⟨wb, 0, none⟩, (zs.set k (false, wr zs k)).length, (zs.set k (false, wr zs k)).length⟩, x1.sl1, _, rfl, by omega, by simpa using hlt, _, x1.wear hk1, _, rfl, by omega, by simpa using hlt, ok2, ?_⟩
  have ew : wr (zs.set k (false, wr zs k)) k = wr zs k := by rw [wr_set hk, if_pos rfl]
  have et : tk (zs.set k (false, wr zs k)) k = false := by rw [tk_set hk, if_pos rfl]
  rw [et, List.set_set] at x2
  have ei : iAdd .i64 (wr (zs.set k (false, wr zs k)) k : Int) (1 : Int) = ((wr zs k + 1 : Nat) : Int) := by rw [ew, iAdd64 (by omega)]; push_cast; rfl
  rw [ei]
  exact .inr ⟨k, rfl, hk, .inr ⟨ht, rfl, x2, o1.trans o2⟩⟩
theorem refMark_spec {h : Hp} {rb fb wb : Nat} {zs : List (Bool × Nat)} {sp : Nat} (x : RA h rb fb wb zs sp) (i : Int) :
    HCalls Try.prog fn_scarpref9_Alloc_Mark #[.pointer (some ⟨rb, 0, none⟩), .int .i64 i] h fun r h' =>
      ((i < 0 ∨ (zs.length : Int) ≤ i) ∧ r = .int .i64 1 ∧ h' = h) ∨ ∃ k : Nat, i = k ∧ k < zs.length ∧ ((tk zs k = true ∧ r = .int .i64 14 ∧ h' = h) ∨ (tk zs k = false ∧ r = .int .i64 0 ∧ RA h' rb fb wb (zs.set k (true, wr zs k)) sp ∧ Only2 fb wb h h')) := by
  apply scarpref9_Alloc_Mark_vc
  unfold vcscarpref9_Alloc_Mark
  have S0 : ∀ {h : Hp} {zs : List (Bool × Nat)} (x : RA h rb fb wb zs sp) {K : Sl → Prop}, K ⟨some ⟨fb, 0, none⟩, zs.length, zs.length⟩ → ∃ a1 : Addr, (some ⟨rb, 0, none⟩ : Option Addr) = some a1 ∧ ∃ c : Sl, hcell h a1 = some (.slice c.base c.len c.cap) ∧ K c := fun x K hK => ⟨_, rfl, ⟨some ⟨fb, 0, none⟩, _, _⟩, x.sl0, hK⟩
  refine IfB.dec (fun h1 => .inl ⟨.inl h1, rfl, rfl⟩) (fun h1 => S0 x (IfB.dec (fun h2 => .inl ⟨.inr h2, rfl, rfl⟩) (fun h2 => S0 x ?_)))
  obtain ⟨k, rfl⟩ : ∃ k : Nat, i = k := ⟨i.toNat, by omega⟩
  have hk : k < zs.length := by simp only at h2; omega
  have hlt : (k : Int) < ((zs.length : Nat) : Int) := by omega
  obtain ⟨ok1, x1, o1⟩ := x.setF hk true
  refine ⟨_, rfl, by omega, hlt, _, x.free hk, IfB.intro (fun ht => .inr ⟨k, rfl, hk, .inl ⟨by simpa using ht, rfl, rfl⟩⟩) (fun ht => ?_)⟩
  exact S0 x ⟨_, rfl, by omega, hlt, ok1, .inr ⟨k, rfl, hk, .inr ⟨by simpa using ht, rfl, x1, o1⟩⟩⟩

end Go.Proofs.Ytmnkafplmbngnaa
