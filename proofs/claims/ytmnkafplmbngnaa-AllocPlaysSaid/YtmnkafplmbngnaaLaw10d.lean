/-
  AllocPlays (chapter 10).
-/
import Derived.Test.YtmnkafplmbngnaaLaw10c
import Derived.Test.YtmnkafplmbngnaaRefAlloc
namespace Go.Proofs.Ytmnkafplmbngnaa
set_option linter.unusedVariables false
set_option linter.unusedSimpArgs false

theorem zs_eq {zs : List (Bool × Nat)} {n : Nat} (hl : zs.length = n) (h1 : ∀ j, j < n → tk zs j = false) (h2 : ∀ j, j < n → wr zs j = 0) : zs = List.replicate n (false, 0) := by
  apply List.ext_getElem
  · simpa using hl
  · intro i hi _
    have a := h1 i (by omega)
    have b := h2 i (by omega)
    rw [tk_get hi] at a; rw [wr_get hi] at b
    simp only [List.getElem_replicate]
    exact Prod.ext a b
theorem newRef_loop {h0 h : Hp} {rb fb wb n sp : Nat} (x : RA h rb fb wb (List.replicate n (true, 0)) sp) (e : Ext h0 h) (h1 : h0.size ≤ fb) (h2 : h0.size ≤ wb) (hn : n ≤ 64) {R : Value → Hp → Prop}
    (hR : ∀ h', RA h' rb fb wb (List.replicate n (false, 0)) sp → Ext h0 h' → R (.tuple #[.pointer (some ⟨rb, 0, none⟩), .int .i64 (0 : Int)]) h') :
    ∃ (vI : Int → Nat → Hp → Prop) (n0 : Nat), vI (0 : Int) n0 h ∧
            ∀ _junk : Nat → Value, ∀ i : Int, ∀ (n1 : Nat) (vh3 : Hp), vI i n1 vh3 →
            IfB (decide (i < (n : Int))) (∃ a : Addr, (some ⟨rb, 0, none⟩ : Option Addr) = some a ∧
              ∃ c : Sl, hcell vh3 a = some (.slice c.base c.len c.cap) ∧
              ∃ a1 : Addr, c.base = some a1 ∧ 0 ≤ i ∧ i < (c.len : Int) ∧
              StOk vh3 (a1.add ((i).toNat * 1)) ∧
              let vh4 := hset vh3 (a1.add ((i).toNat * 1)) (.bool true);
              ∃ n2, n2 < n1 ∧ vI (iAdd .i64 i (1 : Int)) n2 vh4)
            (R (.tuple #[.pointer (some ⟨rb, 0, none⟩), .int .i64 (0 : Int)]) vh3) := by
  refine ⟨fun i m h' => ∃ (j : Nat) (zs : List (Bool × Nat)), i = j ∧ m + j = n ∧ RA h' rb fb wb zs sp ∧ Ext h0 h' ∧ zs.length = n ∧ (∀ q, q < n → wr zs q = 0) ∧ (∀ q, q < j → tk zs q = false), n,
    ⟨0, _, rfl, rfl, x, e, by simp, fun q hq => by rw [wr_get (by simpa using hq)]; simp, fun q hq => by omega⟩, ?_⟩
  rintro _ _ m h3 ⟨j, zs, rfl, hm, x3, e3, hzl, hw, ht⟩
  refine IfB.dec (fun hlt => ?_) (fun hge => ?_)
  · have hj : j < zs.length := by omega
    obtain ⟨ok, x4, o4⟩ := x3.setF hj false
    refine ⟨_, rfl, ⟨some ⟨fb, 0, none⟩, zs.length, zs.length⟩, x3.sl0, _, rfl, by omega, by simp only; omega, ok, m - 1, by omega, j + 1, _, by rw [iAdd64 (by omega)]; push_cast; rfl, by omega, x4, ?_, by simpa using hzl, fun q hq => ?_, fun q hq => ?_⟩
    · exact (e3.toKeep.trans (o4.keep h1 h2 e3.size)).ext
    · rw [wr_set hj]; split
      · exact hw j (by omega)
      · exact hw q hq
    · rw [tk_set hj]; split
      · rfl
      · exact ht q (by omega)
  · have : zs = List.replicate n (false, 0) := zs_eq hzl (fun q hq => ht q (by omega)) hw
    subst this
    exact hR h3 x3 e3
def RNewR (h : Hp) (zones spare : Nat) (r : Value) (h' : Hp) : Prop :=
  ∃ rb fb wb : Nat, h.size ≤ rb ∧ h.size ≤ fb ∧ h.size ≤ wb ∧ r = .tuple #[.pointer (some ⟨rb, 0, none⟩), .int .i64 0] ∧ RA h' rb fb wb (List.replicate zones (false, 0)) spare ∧ Ext h h'
theorem refNew_spec {zones spare : Nat} (h1 : 1 ≤ zones) (h2 : zones ≤ 64) (h3 : spare ≤ zones) (h : Hp) :
    HCalls Try.prog fn_scarpref9_NewAlloc #[.int .i64 (zones : Int), .int .i64 (spare : Int)] h (RNewR h zones spare) := by
  apply scarpref9_NewAlloc_vc
  unfold vcscarpref9_NewAlloc
  refine IfB.dec (fun _ => by omega) (fun _ => IfB.dec (fun _ => by omega) (fun _ => IfB.dec (fun _ => by omega) (fun _ => IfB.dec (fun _ => by omega) (fun _ => ⟨?_, ?_⟩))))
  · refine MkC_own (by omega) (by omega) ⟨alc_ext _ _ _, MkC_own (by omega) (by omega) ⟨(alc_ext _ _ _).trans (alc_ext _ _ _), ?_⟩⟩
    intro h5
    have e5 : Ext h h5 := ((alc_ext _ _ _).trans (alc_ext _ _ _)).trans (alc_ext _ _ _)
    refine ⟨e5, newRef_loop (rb := (alc (alc h (List.replicate zones (.bool false)) 4) (List.replicate zones (.int .i64 0)) 3).size) (fb := h.size) (wb := (alc h (List.replicate zones (.bool false)) 4).size) (n := zones) (sp := spare) (R := RNewR h zones spare) ⟨?_, ?_, ?_, ?_, ?_, ?_⟩ e5 (Nat.le_refl _) ?_ h2 fun h' x e => ⟨_, _, _, ?_, Nat.le_refl _, ?_, rfl, x, e⟩⟩
    · simp only [size_alc]; omega
    · simp only [size_alc]; omega
    · simp only [size_alc]; omega
    · have := Row.alc (alc (alc h (List.replicate zones (.bool false)) 4) (List.replicate zones (.int .i64 0)) 3) [.slice (some ⟨h.size, 0, none⟩) zones zones, .slice (some ⟨(alc h (List.replicate zones (.bool false)) 4).size, 0, none⟩) zones zones, .int .i64 (spare : Int)] 46
      have hl : (List.replicate zones ((true, 0) : Bool × Nat)).length = zones := by simp
      rw [hl]; exact this
    · have := Row.alc h (List.replicate zones (.bool false)) 4
      have e : frV (List.replicate zones (true, 0)) = List.replicate zones (.bool false) := by simp [frV]
      rw [e]
      exact this.eq (by rw [alc_old _ _ _ (by simp only [size_alc]; omega), alc_old _ _ _ (by simp only [size_alc]; omega)])
    · have := Row.alc (alc h (List.replicate zones (.bool false)) 4) (List.replicate zones (.int .i64 0)) 3
      have e : wrV (List.replicate zones (true, 0)) = List.replicate zones (.int .i64 0) := by simp [wrV, iv]
      rw [e]
      exact this.eq (alc_old _ _ _ (by simp only [size_alc]; omega))
    · simp only [size_alc]; omega
    · simp only [size_alc]; omega
    · simp only [size_alc]; omega
  · refine MkC_own (by omega) (by omega) ⟨alc_ext _ _ _, MkC_own (by omega) (by omega) ⟨(alc_ext _ _ _).trans (alc_ext _ _ _), ?_⟩⟩
    intro h5
    have e5 : Ext h h5 := ((alc_ext _ _ _).trans (alc_ext _ _ _)).trans (alc_ext _ _ _)
    refine ⟨e5, newRef_loop (rb := (alc (alc h (List.replicate zones (.int .i64 0)) 3) (List.replicate zones (.bool false)) 4).size) (wb := h.size) (fb := (alc h (List.replicate zones (.int .i64 0)) 3).size) (n := zones) (sp := spare) (R := RNewR h zones spare) ⟨?_, ?_, ?_, ?_, ?_, ?_⟩ e5 ?_ (Nat.le_refl _) h2 fun h' x e => ⟨_, _, _, ?_, ?_, Nat.le_refl _, rfl, x, e⟩⟩
    · simp only [size_alc]; omega
    · simp only [size_alc]; omega
    · simp only [size_alc]; omega
    · have := Row.alc (alc (alc h (List.replicate zones (.int .i64 0)) 3) (List.replicate zones (.bool false)) 4) [.slice (some ⟨(alc h (List.replicate zones (.int .i64 0)) 3).size, 0, none⟩) zones zones, .slice (some ⟨h.size, 0, none⟩) zones zones, .int .i64 (spare : Int)] 46
      have hl : (List.replicate zones ((true, 0) : Bool × Nat)).length = zones := by simp
      rw [hl]; exact this
    · have := Row.alc (alc h (List.replicate zones (.int .i64 0)) 3) (List.replicate zones (.bool false)) 4
      have e : frV (List.replicate zones (true, 0)) = List.replicate zones (.bool false) := by simp [frV]
      rw [e]
      exact this.eq (alc_old _ _ _ (by simp only [size_alc]; omega))
    · have := Row.alc h (List.replicate zones (.int .i64 0)) 3
      have e : wrV (List.replicate zones (true, 0)) = List.replicate zones (.int .i64 0) := by simp [wrV, iv]
      rw [e]
      exact this.eq (by rw [alc_old _ _ _ (by simp only [size_alc]; omega), alc_old _ _ _ (by simp only [size_alc]; omega)])
    · simp only [size_alc]; omega
    · simp only [size_alc]; omega
    · simp only [size_alc]; omega
theorem refNewNo_spec {zones spare : Int} (hn : ¬ (1 ≤ zones ∧ zones ≤ 64 ∧ 0 ≤ spare ∧ spare ≤ zones)) (h : Hp) :
    HCalls Try.prog fn_scarpref9_NewAlloc #[.int .i64 zones, .int .i64 spare] h fun r h' => r = .tuple #[.pointer none, .int .i64 1] ∧ h' = h := by
  apply scarpref9_NewAlloc_vc
  unfold vcscarpref9_NewAlloc
  exact IfB.dec (fun _ => ⟨rfl, rfl⟩) (fun _ => IfB.dec (fun _ => ⟨rfl, rfl⟩) (fun _ => IfB.dec (fun _ => ⟨rfl, rfl⟩) (fun _ => IfB.dec (fun _ => ⟨rfl, rfl⟩) (fun _ => by omega))))
theorem Ints_spec {h : Hp} {s t : Sl} {a b : List Nat} (la : a.length = s.len) (lb : b.length = t.len) (ra : RdC h s.base (a.map iv)) (rb : RdC h t.base (b.map iv)) (hmax : a.length < 9223372036854775807) :
    HCalls Try.prog fn_scarpalike_Ints #[.slice s.base s.len s.cap, .slice t.base t.len t.cap] h fun r h' => r = .bool (decide (a = b)) ∧ h' = h := by
  apply scarpalike_Ints_vc
  unfold vcscarpalike_Ints
  refine IfB.ne (fun hne => ⟨by rw [decide_eq_false]; intro e; subst e; omega, rfl⟩) (fun heq => ?_)
  refine ⟨fun i m h' => h = h' ∧ ∃ k : Nat, i = k ∧ m + k = a.length ∧ ∀ (q : Nat) (h1 : q < a.length) (h2 : q < b.length), q < k → a[q] = b[q], a.length, ⟨rfl, 0, rfl, rfl, fun q _ _ hq => by omega⟩, ?_⟩
  rintro _ _ m _ ⟨rfl, k, rfl, hm, hall⟩
  refine IfB.dec (fun hlt => ?_) (fun hge => ?_)
  · have h1 : k < a.length := by omega
    have h2 : k < b.length := by omega
    refine ix1 ra (by simpa using la) k rfl (by simpa using h1) fun x hx hcx => ⟨_, by simpa [iv] using hcx, ?_⟩
    refine ix1 rb (by simpa using lb) k rfl (by simpa using h2) fun y hy hcy => ⟨_, by simpa [iv] using hcy, ?_⟩
    refine IfB.ne (fun hne => ⟨by rw [decide_eq_false]; intro e; subst e; exact hne rfl, rfl⟩) (fun he => ⟨m - 1, by omega, rfl, k + 1, by rw [iAdd64 (by omega)]; push_cast; rfl, by omega, fun q q1 q2 hq => ?_⟩)
    rcases Nat.lt_succ_iff_lt_or_eq.1 hq with h' | h'
    · exact hall q q1 q2 h'
    · subst h'; omega
  · refine ⟨by rw [decide_eq_true]; exact List.ext_getElem (by omega) fun q q1 q2 => hall q q1 q2 (by omega), rfl⟩

structure PL (h0 : Hp) (rb fb wb z sp c : Nat) (ob : Obj) (zs : List (Bool × Nat)) (h : Hp) : Prop where
  al : AL h (h0.size + 1) h0.size zs sp
  ra : RA h rb fb wb zs sp
  ext : Ext h0 h
  len : zs.length = z
  cp : h[c]? = some ob
structure PN (h0 : Hp) (rb fb wb c : Nat) : Prop where
  r : h0.size + 2 ≤ rb
  f : h0.size + 2 ≤ fb
  w : h0.size + 2 ≤ wb
  rc : rb < c
  fc : fb < c
  wc : wb < c
theorem PL.grow {h0 : Hp} {rb fb wb z sp c : Nat} {ob : Obj} {zs : List (Bool × Nat)} {h h' : Hp} (p : PL h0 rb fb wb z sp c ob zs h) (e : Ext h h') : PL h0 rb fb wb z sp c ob zs h' :=
  ⟨p.al.ext e, p.ra.ext e, p.ext.trans e, p.len, by rw [e.block c (blk_lt p.cp), p.cp]⟩
/-- both have done it. -/
theorem PL.step {h0 : Hp} {rb fb wb z sp c k w : Nat} {t : Bool} {ob : Obj} {zs : List (Bool × Nat)} {h h1 h2 : Hp} (n : PN h0 rb fb wb c) (p : PL h0 rb fb wb z sp c ob zs h)
    (x1 : AL h1 (h0.size + 1) h0.size (zs.set k (t, w)) sp) (o1 : Only h0.size h h1) (x2 : RA h2 rb fb wb (zs.set k (t, w)) sp) (o2 : Only2 fb wb h1 h2) : PL h0 rb fb wb z sp c ob (zs.set k (t, w)) h2 := by
  have hc := blk_lt p.cp
  have hl := p.al.lt
  obtain ⟨n1, n2, n3, n4, n5, n6⟩ := n
  have s1 := o1.size
  have k1 : Keep (h0.size + 2) h1 h2 := o2.keep n2 n3 (by omega)
  refine ⟨x1.keep k1 (by omega) (by omega), x2, ((o1.ext p.ext (Nat.le_refl _)).toKeep.trans (k1.le (by omega))).ext, by simpa using p.len, ?_⟩
  rw [o2.block c (by omega) (by omega) (by omega), o1.block c hc (by omega), p.cp]
theorem PL.ref1 {h0 : Hp} {rb fb wb z sp c : Nat} {ob : Obj} {zs : List (Bool × Nat)} {h h1 : Hp} (n : PN h0 rb fb wb c) (p : PL h0 rb fb wb z sp c ob zs h) (o1 : Only h0.size h h1) : RA h1 rb fb wb zs sp := by
  obtain ⟨n1, n2, n3, n4, n5, n6⟩ := n
  exact p.ra.eq (o1.block _ p.ra.box.lt (by omega)) (o1.block _ p.ra.fr.lt (by omega)) (o1.block _ p.ra.wr.lt (by omega))

def PlaysJ (h0 : Hp) (rb fb wb z sp c : Nat) (ob : Obj) (j : Nat) (ok : Bool) (h' : Hp) : Prop := ok = true ∧ ∃ zs', PL h0 rb fb wb z sp c ob zs' h' ∧ ∀ i, i < z → wr zs' i ≤ j + 1
theorem Plays_take {h0 : Hp} {rb fb wb z sp c j : Nat} {ob : Obj} {zs : List (Bool × Nat)} {h6 : Hp} (n : PN h0 rb fb wb c) (p : PL h0 rb fb wb z sp c ob zs h6) (hz : z ≤ 64) (hw : ∀ i, i < z → wr zs i ≤ j) {kind : Int} {cA : Addr} (hk : ∀ h', h'[c]? = some ob → hcell h' cA = some (.int .i64 kind)) :
    ∃ c9 : Int, hcell h6 cA = some (.int .i64 c9) ∧
                HCalls Try.prog fn_alloc_Alloc_Take #[.pointer (some ⟨h0.size + 1, 0, none⟩), .bool (c9 == (2 : Int))] h6 fun r4 vh7 =>
                ∃ c10 : Int, ∃ c11 : Int, r4 = .tuple #[.int .i64 c10, .int .i64 c11] ∧
                ∃ c12 : Int, hcell vh7 cA = some (.int .i64 c12) ∧
                HCalls Try.prog fn_scarpref9_Alloc_Take #[.pointer (some ⟨rb, 0, none⟩), .bool (c12 == (2 : Int))] vh7 fun r5 vh8 =>
                ∃ c13 : Int, ∃ c14 : Int, r5 = .tuple #[.int .i64 c13, .int .i64 c14] ∧
                IfB (c10 == c13) (PlaysJ h0 rb fb wb z sp c ob j (c11 == c14) vh8)
                (PlaysJ h0 rb fb wb z sp c ob j false vh8) := by
  have hl := p.len
  have hJ : ∀ zs' h', PL h0 rb fb wb z sp c ob zs' h' → (∀ i, i < z → wr zs' i ≤ j + 1) → PlaysJ h0 rb fb wb z sp c ob j true h' := fun zs' h' a b => ⟨rfl, zs', a, b⟩
  refine ⟨_, hk _ p.cp, ?_⟩
  refine (Take_spec p.al (by omega) _).mono ?_
  rintro _ h7 (⟨hc, rfl, e7⟩ | ⟨hc, k, hls, rfl, x7, o7⟩)
  · have p7 := p.grow e7
    refine ⟨_, _, rfl, _, hk _ p7.cp, ?_⟩
    refine (refTake_spec p7.ra (by omega) _).mono ?_
    rintro _ h8 (⟨_, rfl, e8⟩ | ⟨hc2, _⟩)
    · exact ⟨_, _, rfl, .yes (by simp) (hJ _ _ (p7.grow e8) (fun i hi => Nat.le_succ_of_le (hw i hi)))⟩
    · exfalso; rcases hc with hc | hc
      · exact hc2.1 hc
      · exact hc2.2 hc
  · have c7 : h7[c]? = some ob := by rw [o7.block c (blk_lt p.cp) (by have := n.r; have := n.rc; omega), p.cp]
    refine ⟨_, _, rfl, _, hk _ c7, ?_⟩
    refine (refTake_spec (p.ref1 n o7) (by omega) _).mono ?_
    rintro _ h8 (⟨hc2, _⟩ | ⟨_, k2, hls2, rfl, x8, o8⟩)
    · exfalso; rcases hc2 with hc2 | hc2
      · exact hc.1 hc2
      · exact hc.2 hc2
    · obtain rfl := hls.uniq hls2
      have hkz := hls.lt
      refine ⟨_, _, rfl, .yes (by simp) (hJ _ _ (p.step n x7 o7 x8 o8) (fun i hi => ?_))⟩
      rw [wr_set hkz]; split
      · exact Nat.le_succ_of_le (hw k (by omega))
      · exact Nat.le_succ_of_le (hw i hi)
theorem AllocPlays_law {h : Hp} (zones : Int) (_ : (Lit.int .i64 zones).wf = true) (spare : Int) (_ : (Lit.int .i64 spare).wf = true) (l : Sl) (ps : List (Int × Int)) (w : InP h l ps) :
    HCalls Try.prog fn_scarplaw10_AllocPlays #[.int .i64 zones, .int .i64 spare, .slice l.base l.len l.cap] h (Yes h) := by
  apply scarplaw10_AllocPlays_vc
  unfold vcscarplaw10_AllocPlays
  have hlen := w.len
  refine IfB.dec (fun _ => aw10 (.refl _)) (fun hle => ?_)
  by_cases hmay : 1 ≤ zones ∧ zones ≤ 64 ∧ 0 ≤ spare ∧ spare ≤ zones
  rotate_left
  · refine (NewNo_spec hmay _).mono ?_
    rintro _ _ ⟨rfl, rfl⟩
    refine ⟨_, _, rfl, ?_⟩
    refine (refNewNo_spec hmay _).mono ?_
    rintro _ _ ⟨rfl, rfl⟩
    exact ⟨_, _, rfl, .no rfl (.no rfl (.yes rfl (aw10 (.refl _))))⟩
  obtain ⟨z, rfl⟩ : ∃ z : Nat, zones = z := ⟨zones.toNat, by omega⟩
  obtain ⟨sp, rfl⟩ : ∃ sp : Nat, spare = sp := ⟨spare.toNat, by omega⟩
  have hz : z ≤ 64 := by omega
  refine (New_spec (zones := z) (spare := sp) (by omega) (by omega) (by omega) h).mono ?_
  rintro _ h1 ⟨rfl, x1, e1⟩
  have hx1 := x1.lt
  refine ⟨_, _, rfl, ?_⟩
  refine (refNew_spec (zones := z) (spare := sp) (by omega) (by omega) (by omega) h1).mono ?_
  rintro _ h2 ⟨rb, fb, wb, g1, g2, g3, rfl, x2, e2⟩
  refine ⟨_, _, rfl, .no rfl (.no rfl (.no rfl ?_))⟩
  refine ⟨fun i m h' => ∃ (j : Nat) (zs : List (Bool × Nat)), i = j ∧ m + j = ps.length ∧ AL h' (h.size + 1) h.size zs sp ∧ RA h' rb fb wb zs sp ∧ Ext h h' ∧ zs.length = z ∧ (∀ i, i < z → wr zs i ≤ j), ps.length,
    ⟨0, _, rfl, rfl, x1.ext e2, x2, e1.trans e2, by simp, fun i _ => by rw [new_wr]; omega⟩, ?_⟩
  rintro _ _ m h4 ⟨j, zs, rfl, hm, y1, y2, e4, hzl, hw⟩
  refine IfB.dec (fun hlt => ?_) (fun _ => aw10 e4)
  have hj : j < ps.length := by omega
  have nx : iAdd .i64 (j : Int) (1 : Int) = ((j + 1 : Nat) : Int) := by rw [iAdd64 (by omega)]; push_cast; rfl
  obtain ⟨a, ba, b0, b1, r0, r1⟩ := w.ix e4 j hj
  refine ⟨a, ba, b0, b1, _, _, r0, r1, ?_⟩
  intro h5
  refine cp2 rfl rfl fun h6 e6 s6 c0 c1 => ?_
  obtain ⟨ob, hob⟩ : ∃ ob, h6[h4.size]? = some ob := ⟨_, Array.getElem?_eq_getElem (by omega)⟩
  have n : PN h rb fb wb h4.size := ⟨by omega, by omega, by omega, y2.box.lt, y2.fr.lt, y2.wr.lt⟩
  have p6 : PL h rb fb wb z sp h4.size ob zs h6 := ⟨y1.ext e6, y2.ext e6, e4.trans e6, hzl, hob⟩
  have k0 : ∀ h', h'[h4.size]? = some ob → hcell h' (nw h4) = some (.int .i64 ps[j].1) := fun h' hh => by rw [← c0]; exact hcell_eq (by show h'[h4.size]? = h6[h4.size]?; rw [hh, hob])
  have k1 : ∀ h', h'[h4.size]? = some ob → hcell h' ((nw h4).add 1) = some (.int .i64 ps[j].2) := fun h' hh => by rw [← c1]; exact hcell_eq (by rw [add_block]; show h'[h4.size]? = h6[h4.size]?; rw [hh, hob])
  refine ⟨PlaysJ h rb fb wb z sp h4.size ob j, ?_, ?_⟩
  · refine ⟨_, k0 _ hob, IfB.intro (fun _ => Plays_take n p6 hz hw k0) (fun _ => IfB.intro (fun _ => Plays_take n p6 hz hw k0) (fun _ => IfB.intro (fun _ => ?_) (fun _ => IfB.intro (fun _ => ?_) (fun _ => ⟨rfl, zs, p6, fun i hi => Nat.le_succ_of_le (hw i hi)⟩))))⟩
    · refine ⟨onlyB h4.size ob, sub_only hob, _, k1 _ (onlyB_at _ _), _, k1 _ (onlyB_at _ _), ?_⟩
      have hwN : ∀ k : Nat, ps[j].2 = k → wr zs k < 9223372036854775807 := fun k _ => by
        by_cases hk : k < z
        · have := hw k hk; omega
        · unfold wr; simp [List.getD, List.getElem?_eq_none (show zs.length ≤ k by omega)]
      refine (Free_spec p6.al ps[j].2 hwN).mono ?_
      rintro _ h7 (⟨hc, rfl, rfl⟩ | ⟨k, hk, hk2, hcase⟩)
      · refine ⟨_, rfl, sub_only hob, ?_⟩
        refine (refFree_spec p6.ra ps[j].2 hwN).mono ?_
        rintro _ h8 (⟨_, rfl, rfl⟩ | ⟨k, hk, hk2, _⟩)
        · exact ⟨_, rfl, sub_only hob, by simp, zs, p6, fun i hi => Nat.le_succ_of_le (hw i hi)⟩
        · exfalso; rcases hc with hc | hc <;> omega
      · rcases hcase with ⟨ht, rfl, rfl⟩ | ⟨ht, rfl, x7, o7⟩
        · refine ⟨_, rfl, sub_only hob, ?_⟩
          refine (refFree_spec p6.ra ps[j].2 hwN).mono ?_
          rintro _ h8 (⟨hc, _⟩ | ⟨q, hq, hq2, hcase2⟩)
          · exfalso; rcases hc with hc | hc <;> omega
          · obtain rfl : k = q := by omega
            rcases hcase2 with ⟨_, rfl, rfl⟩ | ⟨ht2, _⟩
            · exact ⟨_, rfl, sub_only hob, by simp, zs, p6, fun i hi => Nat.le_succ_of_le (hw i hi)⟩
            · rw [ht] at ht2; cases ht2
        · have c7 : h7[h4.size]? = some ob := by rw [o7.block _ (blk_lt hob) (by have := n.r; have := n.rc; omega), hob]
          refine ⟨_, rfl, sub_only c7, ?_⟩
          refine (refFree_spec (p6.ref1 n o7) ps[j].2 hwN).mono ?_
          rintro _ h8 (⟨hc, _⟩ | ⟨q, hq, hq2, hcase2⟩)
          · exfalso; rcases hc with hc | hc <;> omega
          · obtain rfl : k = q := by omega
            rcases hcase2 with ⟨ht2, _⟩ | ⟨_, rfl, x8, o8⟩
            · rw [ht] at ht2; cases ht2
            · have p8 := p6.step n x7 o7 x8 o8
              refine ⟨_, rfl, sub_only p8.cp, by simp, _, p8, fun i hi => ?_⟩
              rw [wr_set hk2]; split
              · have := hw k (by omega); simp only; omega
              · exact Nat.le_succ_of_le (hw i hi)
    · refine ⟨onlyB h4.size ob, sub_only hob, _, k1 _ (onlyB_at _ _), _, k1 _ (onlyB_at _ _), ?_⟩
      refine (Mark_spec p6.al ps[j].2).mono ?_
      rintro _ h7 (⟨hc, rfl, rfl⟩ | ⟨k, hk, hk2, hcase⟩)
      · refine ⟨_, rfl, sub_only hob, ?_⟩
        refine (refMark_spec p6.ra ps[j].2).mono ?_
        rintro _ h8 (⟨_, rfl, rfl⟩ | ⟨k, hk, hk2, _⟩)
        · exact ⟨_, rfl, sub_only hob, by simp, zs, p6, fun i hi => Nat.le_succ_of_le (hw i hi)⟩
        · exfalso; rcases hc with hc | hc <;> omega
      · rcases hcase with ⟨ht, rfl, rfl⟩ | ⟨ht, rfl, x7, o7⟩
        · refine ⟨_, rfl, sub_only hob, ?_⟩
          refine (refMark_spec p6.ra ps[j].2).mono ?_
          rintro _ h8 (⟨hc, _⟩ | ⟨q, hq, hq2, hcase2⟩)
          · exfalso; rcases hc with hc | hc <;> omega
          · obtain rfl : k = q := by omega
            rcases hcase2 with ⟨_, rfl, rfl⟩ | ⟨ht2, _⟩
            · exact ⟨_, rfl, sub_only hob, by simp, zs, p6, fun i hi => Nat.le_succ_of_le (hw i hi)⟩
            · rw [ht] at ht2; cases ht2
        · have c7 : h7[h4.size]? = some ob := by rw [o7.block _ (blk_lt hob) (by have := n.r; have := n.rc; omega), hob]
          refine ⟨_, rfl, sub_only c7, ?_⟩
          refine (refMark_spec (p6.ref1 n o7) ps[j].2).mono ?_
          rintro _ h8 (⟨hc, _⟩ | ⟨q, hq, hq2, hcase2⟩)
          · exfalso; rcases hc with hc | hc <;> omega
          · obtain rfl : k = q := by omega
            rcases hcase2 with ⟨ht2, _⟩ | ⟨_, rfl, x8, o8⟩
            · rw [ht] at ht2; cases ht2
            · have p8 := p6.step n x7 o7 x8 o8
              refine ⟨_, rfl, sub_only p8.cp, by simp, _, p8, fun i hi => ?_⟩
              rw [wr_set hk2]; split
              · exact Nat.le_succ_of_le (hw k (by omega))
              · exact Nat.le_succ_of_le (hw i hi)
  · rintro _ ok h15 ⟨rfl, zt, p15, hw15⟩
    have hl15 := p15.len
    refine ⟨fun v h' => h15 = h' ∧ ((ps[j].2 < 0 ∨ (z : Int) ≤ ps[j].2) ∧ v = 0 ∨ ∃ k : Nat, ps[j].2 = k ∧ k < z ∧ v = (wr zt k : Int)), ?_, ?_⟩
    · refine ⟨_, k1 _ p15.cp, IfB.dec (fun hge => ⟨_, k1 _ p15.cp, IfB.dec (fun hlt2 => ?_) (fun hno => ⟨rfl, .inl ⟨.inr (by omega), rfl⟩⟩)⟩) (fun hno => ⟨rfl, .inl ⟨.inl (by omega), rfl⟩⟩)⟩
      obtain ⟨k, hk⟩ : ∃ k : Nat, ps[j].2 = k := ⟨ps[j].2.toNat, by omega⟩
      refine ⟨_, rfl, ⟨some ⟨wb, 0, none⟩, zt.length, zt.length⟩, p15.ra.sl1, _, k1 _ p15.cp, _, rfl, hge, by simp only; omega, _, ?_, rfl, .inr ⟨k, hk, by omega, rfl⟩⟩
      rw [hk]; exact p15.ra.wear (by omega)
    · rintro _ v _ ⟨rfl, hv⟩
      refine .no rfl ?_
      refine (Count_spec p15.al (by omega)).mono ?_
      rintro _ h17 ⟨rfl, e17⟩
      have p17 := p15.grow e17
      refine ⟨_, rfl, ?_⟩
      refine (refCount_spec p17.ra (by omega)).mono ?_
      rintro _ h18 ⟨rfl, e18⟩
      have p18 := p17.grow e18
      refine ⟨_, rfl, .no (by simp) ?_⟩
      refine (List_spec p18.al (by omega)).mono ?_
      rintro _ h19 ⟨s1, rfl, o19, l19, e19⟩
      have p19 := p18.grow e19
      refine ⟨_, rfl, ?_⟩
      refine (refList_spec p19.ra (by omega)).mono ?_
      rintro _ h20 ⟨s2, rfl, o20, l20, e20⟩
      have p20 := p19.grow e20
      refine ⟨_, rfl, ?_⟩
      have hcl := cnt_le zt
      refine (Ints_spec l19.symm l20.symm (o19.ext e20).rd o20.rd (by omega)).mono ?_
      rintro _ _ ⟨rfl, rfl⟩
      refine ⟨_, rfl, .no (by simp) ⟨_, k1 _ p20.cp, ?_⟩⟩
      refine (Wear_spec p20.al ps[j].2).mono ?_
      rintro _ h22 ⟨hv2, rfl⟩
      have fin : ∀ u : Int, u = v → ∃ c : Int, (Value.int .i64 u) = .int .i64 c ∧ IfB (c != v) (Yes h (.bool false) h22) (∃ n2, n2 < m ∧ ∃ (j' : Nat) (zs : List (Bool × Nat)), iAdd .i64 (j : Int) (1 : Int) = j' ∧ n2 + j' = ps.length ∧ AL h22 (h.size + 1) h.size zs sp ∧ RA h22 rb fb wb zs sp ∧ Ext h h22 ∧ zs.length = z ∧ (∀ i, i < z → wr zs i ≤ j')) := fun u hu => by
        subst hu
        exact ⟨_, rfl, .no (by simp) ⟨m - 1, by omega, j + 1, zt, nx, by omega, p20.al, p20.ra, p20.ext, hl15, hw15⟩⟩
      rcases hv2 with ⟨hc, rfl⟩ | ⟨k, hk, hk2, rfl⟩
      · refine fin 0 ?_
        rcases hv with ⟨_, rfl⟩ | ⟨k, hk, hk2, _⟩
        · rfl
        · exfalso; rcases hc with hc | hc <;> omega
      · refine fin _ ?_
        rcases hv with ⟨hc, _⟩ | ⟨q, hq, hq2, rfl⟩
        · exfalso; rcases hc with hc | hc <;> omega
        · obtain rfl : k = q := by omega
          rfl

end Go.Proofs.Ytmnkafplmbngnaa
