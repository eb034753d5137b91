/-
  AllocMarks (chapter 10).
-/
import Derived.Test.YtmnkafplmbngnaaLaw10
namespace Go.Proofs.Ytmnkafplmbngnaa
set_option linter.unusedVariables false
set_option linter.unusedSimpArgs false

/-- reading a number that came in. -/
theorem ixI {k : IntKind} {h h0 : Hp} {s : Sl} {l : List Int} (w : InI k h0 s l) (e : Ext h0 h) {i : Int} (j : Nat) (hi : i = j) (hk : j < l.length) {K : Int → Prop}
    (hK : K l[j]) : ∃ a : Addr, s.base = some a ∧ 0 ≤ i ∧ i < (s.len : Int) ∧ ∃ c : Int, hcell h (a.add (i.toNat * 1)) = some (.int k c) ∧ K c :=
  ix1 (w.rd.ext e) (by simpa using w.len) j hi (by simpa using hk) fun a _ hc => ⟨_, by simpa using hc, hK⟩
/-- zones, and a row of bools beside. -/
structure AH (h0 h : Hp) (s : Sl) (z sp : Nat) (zs : List (Bool × Nat)) : Prop where
  len : zs.length = z
  al : AL h (h0.size + 1) h0.size zs sp
  own : Own (h0.size + 2) 1 h s (tkV zs)
  ext : Ext h0 h
theorem AH.grow {h0 h h' : Hp} {s : Sl} {z sp : Nat} {zs : List (Bool × Nat)} (x : AH h0 h s z sp zs) (e : Ext h h') : AH h0 h' s z sp zs := ⟨x.len, x.al.ext e, x.own.ext e, x.ext.trans e⟩
theorem New_row {z : Nat} (hz : z ≤ 64) {h0 h : Hp} {sp : Nat} (x : AL h (h0.size + 1) h0.size (List.replicate z (false, 0)) sp) (e : Ext h0 h) {K : Sl → Hp → Prop}
    (hK : ∀ s h', AH h0 h' s z sp (List.replicate z (false, 0)) → K s h') : MkC 4 1 #[.bool false] (z : Int) (z : Int) h K := by
  refine MkC_own (by omega) (by omega) (hK _ _ ⟨by simp, x.ext (alc_ext _ _ _), ?_, e.trans (alc_ext _ _ _)⟩)
  have := Own.alc h (List.replicate z (.bool false)) 4 z 1 (by simp)
  have hl := x.lt
  have e2 : tkV (List.replicate z (false, 0)) = List.replicate z (.bool false) := by simp [tkV]
  rw [e2]
  exact this.weak (by omega)
/-- taken in both. -/
theorem AH.both {h0 h h1 : Hp} {s : Sl} {z sp : Nat} {zs : List (Bool × Nat)} (x : AH h0 h s z sp zs) {k w : Nat} {t : Bool} (hk : k < zs.length) (x1 : AL h1 (h0.size + 1) h0.size (zs.set k (t, w)) sp) (o1 : Only h0.size h h1) {i : Int} (hi : i = k)
    {K : Hp → Prop} (hK : ∀ h', AH h0 h' s z sp (zs.set k (t, w)) → K h') :
    ∃ a : Addr, s.base = some a ∧ 0 ≤ i ∧ i < (s.len : Int) ∧ StOk h1 (a.add (i.toNat * 1)) ∧ K (hset h1 (a.add (i.toNat * 1)) (.bool t)) := by
  have e1 : Ext h0 h1 := o1.ext x.ext (Nat.le_refl _)
  refine setB (x.own.only o1 (by omega)) k hi hk t w fun h' o' k' => hK h' ⟨by simpa using x.len, x1.keep k' (by omega) (by omega), o', ?_⟩
  exact (e1.toKeep.trans (k'.le (by omega))).ext
theorem AllocMarks_spec {h : Hp} {s0 : Sl} {l : List Int} (w : InI .i64 h s0 l) (z : Nat) : HCalls Try.prog fn_scarplaw10_AllocMarks #[.int .i64 (z : Int), .slice s0.base s0.len s0.cap] h (Yes h) := by
  apply scarplaw10_AllocMarks_vc
  unfold vcscarplaw10_AllocMarks
  have hlen := w.len
  refine IfB.dec (fun _ => aw10 (.refl _)) (fun h1 => IfB.dec (fun _ => aw10 (.refl _)) (fun h2 => IfB.dec (fun _ => aw10 (.refl _)) (fun h3 => ?_)))
  refine (New_spec (zones := z) (spare := 0) (by omega) (by omega) (by omega) h).mono ?_
  rintro _ h5 ⟨rfl, x5, e5⟩
  refine ⟨_, _, rfl, .no rfl (.no rfl ?_)⟩
  refine New_row (by omega) x5 e5 fun s h6 y6 => ?_
  refine ⟨fun n i m h' => ∃ (j : Nat) (zs : List (Bool × Nat)), i = j ∧ m + j = l.length ∧ AH h h' s z 0 zs ∧ (∀ i, i < z → wr zs i = 0) ∧ n = ((freeL zs).length : Int), l.length,
    ⟨0, _, rfl, rfl, y6, fun i _ => new_wr _ _, by rw [cnt_all (fun i hi => new_tk (by simpa using hi))]; simp⟩, ?_⟩
  rintro _ _ _ m h7 ⟨j, zs, rfl, hm, y7, hwr, rfl⟩
  have hzl := y7.len
  refine IfB.dec (fun hlt => ?_) (fun hge => ?_)
  · have hj : j < l.length := by omega
    have nx : iAdd .i64 (j : Int) (1 : Int) = ((j + 1 : Nat) : Int) := by rw [iAdd64 (by omega)]; push_cast; rfl
    refine ixI w y7.ext j rfl hj ?_
    refine (Mark_spec y7.al l[j]).mono ?_
    rintro _ h8 (⟨hc, rfl, rfl⟩ | ⟨k, hk, hk2, ⟨ht, rfl, rfl⟩ | ⟨ht, rfl, x8, o8⟩⟩)
    · refine ⟨_, rfl, IfB.dec (fun _ => .no rfl ⟨m - 1, by omega, j + 1, zs, nx, by omega, y7, hwr, rfl⟩) (fun h0 => IfB.dec (fun _ => .no rfl ⟨m - 1, by omega, j + 1, zs, nx, by omega, y7, hwr, rfl⟩) (fun _ => by omega))⟩
    · refine ⟨_, rfl, IfB.dec (fun _ => by omega) (fun h0 => IfB.dec (fun _ => by omega) (fun _ => ?_))⟩
      refine ixT y7.own k hk hk2 (.yes ht (.no rfl ⟨m - 1, by omega, j + 1, zs, nx, by omega, y7, hwr, rfl⟩))
    · refine ⟨_, rfl, IfB.dec (fun _ => by omega) (fun h0 => IfB.dec (fun _ => by omega) (fun _ => ?_))⟩
      refine ixT (y7.own.only o8 (by omega)) k hk hk2 (.no ht (.no rfl ?_))
      obtain ⟨a9, ba, b0, b1, ok, y9⟩ := y7.both hk2 x8 o8 hk (fun _ y => y)
      refine ⟨a9, ba, b0, b1, ok, ?_⟩
      have hcnt := cnt_take hk2 ht (wr zs k)
      have hcl := cnt_le zs
      refine ⟨m - 1, by omega, j + 1, _, nx, by omega, y9, fun i hi => ?_, ?_⟩
      · rw [wr_set hk2]; split
        · exact hwr k (by omega)
        · exact hwr i hi
      · rw [iSub64 (by omega)]; omega
  · refine ⟨fun i m h' => ∃ (q : Nat) (zt : List (Bool × Nat)), i = q ∧ m + q = (freeL zs).length ∧ AH h h' s z 0 zt ∧ (∀ i, i < z → wr zt i = 0) ∧ q + (freeL zt).length = (freeL zs).length, (freeL zs).length, ⟨0, zs, rfl, rfl, y7, hwr, by omega⟩, ?_⟩
    have hcl := cnt_le zs
    rintro _ _ m2 h8 ⟨q, zt, rfl, hm2, y8, hwr8, hq⟩
    have hzl8 := y8.len
    refine IfB.dec (fun hlt => ?_) (fun hge2 => ?_)
    · refine (Take_spec y8.al (by omega) false).mono ?_
      rintro _ h9 (⟨hc, _⟩ | ⟨_, k, hl, rfl, x9, o9⟩)
      · rcases hc with hc | ⟨_, hc⟩ <;> omega
      have hk2 := hl.lt
      refine ⟨_, _, rfl, .no rfl (IfB.dec (fun _ => by omega) (fun _ => IfB.dec (fun _ => by omega) (fun _ => ?_)))⟩
      refine ixT (y8.own.only o9 (by omega)) k rfl hk2 (.no hl.free ?_)
      obtain ⟨a9, ba, b0, b1, ok, y10⟩ := y8.both hk2 x9 o9 rfl (fun _ y => y)
      refine ⟨a9, ba, b0, b1, ok, ?_⟩
      have hcnt := cnt_take hk2 hl.free (wr zt k)
      refine ⟨m2 - 1, by omega, q + 1, _, by rw [iAdd64 (by omega)]; push_cast; rfl, by omega, y10, fun i hi => ?_, by omega⟩
      rw [wr_set hk2]; split
      · exact hwr8 k (by omega)
      · exact hwr8 i hi
    · have h0 : (freeL zt).length = 0 := by omega
      refine (Take_spec y8.al (by omega) true).mono ?_
      rintro _ h9 (⟨_, rfl, e9⟩ | ⟨hc, _⟩)
      rotate_left
      · omega
      refine ⟨_, _, rfl, .no rfl ?_⟩
      have y9 := y8.grow e9
      refine (Count_spec y9.al (by omega)).mono ?_
      rintro _ h10 ⟨rfl, e10⟩
      refine ⟨_, rfl, .no (by simp [h0]) ?_⟩
      have y10 := y9.grow e10
      refine (List_spec y10.al (by omega)).mono ?_
      rintro _ h11 ⟨r, rfl, _, hr, e11⟩
      refine ⟨_, rfl, .no (by simp [hr, h0]) ?_⟩
      have y11 := y10.grow e11
      refine ⟨fun i m h' => ∃ (q : Nat) (zu : List (Bool × Nat)), i = q ∧ m + q = z ∧ zu.length = z ∧ AL h' (h.size + 1) h.size zu 0 ∧ Ext h h' ∧ (∀ i, i < z → if i < q then tk zu i = false else (tk zu i = true ∧ wr zu i = 0)), z,
        ⟨0, zt, rfl, rfl, hzl8, y11.al, y11.ext, fun i hi => ⟨cnt_zero h0 (by omega), hwr8 i hi⟩⟩, ?_⟩
      rintro _ _ m3 h12 ⟨p, zu, rfl, hm3, hzu, x12, e12, hp⟩
      have nx : iAdd .i64 (p : Int) (1 : Int) = ((p + 1 : Nat) : Int) := by rw [iAdd64 (by omega)]; push_cast; rfl
      refine IfB.dec (fun hlt => ?_) (fun hge3 => ?_)
      · have hpz : p < zu.length := by omega
        have hpp := hp p (by omega)
        rw [if_neg (Nat.lt_irrefl _)] at hpp
        -- what 'Free' asks of wears is asked of this zone alone
        refine (Free_one x12 hpz hpp.1 (by omega)).mono ?_
        rintro _ h13 ⟨rfl, x13, o13⟩
        refine ⟨_, rfl, .no rfl ?_⟩
        refine (Wear_spec x13 (p : Int)).mono ?_
        rintro _ _ ⟨hc, rfl⟩
        rcases hc with ⟨hc, _⟩ | ⟨k, hk, hk2, rfl⟩
        · simp at hc; omega
        obtain rfl : p = k := by omega
        refine ⟨_, rfl, .no (by rw [wr_set hpz, if_pos rfl, hpp.2]; rfl) ⟨m3 - 1, by omega, p + 1, _, nx, by omega, by simpa using hzu, x13, o13.ext e12 (Nat.le_refl _), fun i hi => ?_⟩⟩
        rw [tk_set hpz, wr_set hpz]
        have := hp i hi
        by_cases hip : i = p
        · rw [if_pos (by omega), if_pos hip]
        · rw [if_neg hip, if_neg hip]
          by_cases hi' : i < p
          · rw [if_pos hi'] at this; rw [if_pos (by omega)]; exact this
          · rw [if_neg hi'] at this; rw [if_neg (by omega)]; exact this
      · refine (Count_spec x12 (by omega)).mono ?_
        rintro _ h13 ⟨rfl, e13⟩
        have hall : (freeL zu).length = z := by
          rw [cnt_all (fun i hi => ?_), hzu]
          have := hp i (by omega)
          rwa [if_pos (by omega)] at this
        exact ⟨_, rfl, .yes (by simp [hall]) (aw10 (e12.trans e13))⟩
theorem AllocMarks_law {h : Hp} (zones : Int) (_ : (Lit.int .i64 zones).wf = true) (s : Sl) (l : List Int) (w : InI .i64 h s l) : HCalls Try.prog fn_scarplaw10_AllocMarks #[.int .i64 zones, .slice s.base s.len s.cap] h (Yes h) := by
  rcases Int.lt_or_le zones 0 with h1 | h1
  · apply scarplaw10_AllocMarks_vc
    unfold vcscarplaw10_AllocMarks
    exact .yes (by simp; omega) (aw10 (.refl _))
  obtain ⟨z, rfl⟩ : ∃ z : Nat, zones = z := ⟨zones.toNat, by omega⟩
  exact AllocMarks_spec w z

end Go.Proofs.Ytmnkafplmbngnaa
