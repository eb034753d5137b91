/-
  AllocOnce (chapter 10).
-/
import Derived.Test.YtmnkafplmbngnaaLaw10b
import Derived.Test.YtmnkafplmbngnaaAlike0
import Derived.Test.YtmnkafplmbngnaaBridge3
namespace Go.Proofs.Ytmnkafplmbngnaa
set_option linter.unusedVariables false
set_option linter.unusedSimpArgs false

/-- one block alone. -/
def onlyB (c : Nat) (o : Obj) : Hp := (Array.replicate c (.cells #[] 0 (0, 0))).push o
theorem onlyB_at (c : Nat) (o : Obj) : (onlyB c o)[c]? = some o := by unfold onlyB; rw [Array.getElem?_push]; simp
theorem sub_only {c : Nat} {ob : Obj} {h' : Hp} (hb : h'[c]? = some ob) : Sub (onlyB c ob) h' := by
  intro a v hc
  by_cases e : a.block = c
  · rw [← hc]; exact hcell_eq (by rw [e, hb, onlyB_at])
  · exfalso
    by_cases lt : a.block < c
    · have : (onlyB c ob)[a.block]? = some (.cells #[] 0 (0, 0)) := by simp [onlyB, Array.getElem?_push, e, lt]
      simp [hcell, hw, World.cell?, this] at hc
    · have : (onlyB c ob)[a.block]? = none := by simp [onlyB, Array.getElem?_push, e, lt]
      simp [hcell, hw, World.cell?, this] at hc

def OnceI (h0 : Hp) (s : Sl) (z sp L : Nat) (n i : Int) (m : Nat) (h' : Hp) : Prop :=
  ∃ (j : Nat) (zs : List (Bool × Nat)), i = j ∧ m + j = L ∧ AH h0 h' s z sp zs ∧ (∀ i, i < z → wr zs i ≤ j) ∧ n = ((freeL zs).length : Int)
theorem Once_fin {h0 h : Hp} {s : Sl} {z sp L m j : Nat} {zs : List (Bool × Nat)} (y : AH h0 h s z sp zs) (hz : z ≤ 64) (hL : L ≤ 500) (hm : m + j = L) (hj : j < L) (hw : ∀ i, i < z → wr zs i ≤ j + 1) {n : Int} (hn : n = ((freeL zs).length : Int)) :
    HCalls Try.prog fn_alloc_Alloc_Count #[.pointer (some ⟨h0.size + 1, 0, none⟩)] h fun r vh => ∃ c : Int, r = .int .i64 c ∧ IfB (c != n) (Yes h0 (.bool false) vh) (∃ n2, n2 < m ∧ OnceI h0 s z sp L n (iAdd .i64 (j : Int) (1 : Int)) n2 vh) := by
  subst hn
  have hl := y.len
  refine (Count_spec y.al (by omega)).mono ?_
  rintro _ h1 ⟨rfl, e1⟩
  refine ⟨_, rfl, .no (by simp) ⟨m - 1, by omega, j + 1, zs, ?_, by omega, y.grow e1, hw, rfl⟩⟩
  rw [iAdd64 (by omega)]; push_cast; rfl
theorem Once_take {h0 h : Hp} {s : Sl} {z sp L m j : Nat} {zs : List (Bool × Nat)} {l : Sl} {ps : List (Int × Int)} (w : InP h0 l ps) (y : AH h0 h s z sp zs) (hz : z ≤ 64) (hL : L ≤ 500) (hps : ps.length = L) (hm : m + j = L) (hj : j < L) (hw : ∀ i, i < z → wr zs i ≤ j) :
    ∃ a1 : Addr, l.base = some a1 ∧ 0 ≤ (j : Int) ∧ (j : Int) < (l.len : Int) ∧
                    ∃ c8 : Int, hcell h (a1.add (((j : Int)).toNat * 2)) = some (.int .i64 c8) ∧
                    HCalls Try.prog fn_alloc_Alloc_Take #[.pointer (some ⟨h0.size + 1, 0, none⟩), .bool (c8 == (2 : Int))] h fun r6 vh8 =>
                    ∃ c9 : Int, ∃ c10 : Int, r6 = .tuple #[.int .i64 c9, .int .i64 c10] ∧
                    IfB (decide (((freeL zs).length : Int) > (0 : Int))) (∃ a2 : Addr, l.base = some a2 ∧ 0 ≤ (j : Int) ∧ (j : Int) < (l.len : Int) ∧
                      ∃ c11 : Int, hcell vh8 (a2.add (((j : Int)).toNat * 2)) = some (.int .i64 c11) ∧
                      IfB (c11 == (2 : Int)) (IfB (!((c10 == (0 : Int)) == true)) (Yes h0 (.bool false) vh8)
                        (IfB (decide (c9 < (0 : Int))) (Yes h0 (.bool false) vh8)
                          (IfB (decide (c9 ≥ (z : Int))) (Yes h0 (.bool false) vh8)
                            (∃ a3 : Addr, s.base = some a3 ∧ 0 ≤ c9 ∧ c9 < (s.len : Int) ∧
                              ∃ c12 : Bool, hcell vh8 (a3.add ((c9).toNat * 1)) = some (.bool c12) ∧
                              IfB c12 (Yes h0 (.bool false) vh8)
                              (∃ a4 : Addr, s.base = some a4 ∧ 0 ≤ c9 ∧ c9 < (s.len : Int) ∧
                                StOk vh8 (a4.add ((c9).toNat * 1)) ∧
                                let vh9 := hset vh8 (a4.add ((c9).toNat * 1)) (.bool true);
                                HCalls Try.prog fn_alloc_Alloc_Count #[.pointer (some ⟨h0.size + 1, 0, none⟩)] vh9 fun r7 vh10 =>
                                ∃ c13 : Int, r7 = .int .i64 c13 ∧
                                IfB (c13 != (iSub .i64 ((freeL zs).length : Int) (1 : Int))) (Yes h0 (.bool false) vh10)
                                (∃ n2, n2 < m ∧ OnceI h0 s z sp L (iSub .i64 ((freeL zs).length : Int) (1 : Int)) (iAdd .i64 (j : Int) (1 : Int)) n2 vh10))))))
                      (IfB (!((c10 == (0 : Int)) == (decide (((freeL zs).length : Int) > (sp : Int))))) (Yes h0 (.bool false) vh8)
                        (IfB (decide (((freeL zs).length : Int) > (sp : Int))) (IfB (decide (c9 < (0 : Int))) (Yes h0 (.bool false) vh8)
                            (IfB (decide (c9 ≥ (z : Int))) (Yes h0 (.bool false) vh8)
                              (∃ a5 : Addr, s.base = some a5 ∧ 0 ≤ c9 ∧ c9 < (s.len : Int) ∧
                                ∃ c14 : Bool, hcell vh8 (a5.add ((c9).toNat * 1)) = some (.bool c14) ∧
                                IfB c14 (Yes h0 (.bool false) vh8)
                                (∃ a6 : Addr, s.base = some a6 ∧ 0 ≤ c9 ∧ c9 < (s.len : Int) ∧
                                  StOk vh8 (a6.add ((c9).toNat * 1)) ∧
                                  let vh11 := hset vh8 (a6.add ((c9).toNat * 1)) (.bool true);
                                  HCalls Try.prog fn_alloc_Alloc_Count #[.pointer (some ⟨h0.size + 1, 0, none⟩)] vh11 fun r8 vh12 =>
                                  ∃ c15 : Int, r8 = .int .i64 c15 ∧
                                  IfB (c15 != (iSub .i64 ((freeL zs).length : Int) (1 : Int))) (Yes h0 (.bool false) vh12)
                                  (∃ n2, n2 < m ∧ OnceI h0 s z sp L (iSub .i64 ((freeL zs).length : Int) (1 : Int)) (iAdd .i64 (j : Int) (1 : Int)) n2 vh12)))))
                          (HCalls Try.prog fn_alloc_Alloc_Count #[.pointer (some ⟨h0.size + 1, 0, none⟩)] vh8 fun r9 vh13 =>
                            ∃ c16 : Int, r9 = .int .i64 c16 ∧
                            IfB (c16 != ((freeL zs).length : Int)) (Yes h0 (.bool false) vh13)
                            (∃ n2, n2 < m ∧ OnceI h0 s z sp L ((freeL zs).length : Int) (iAdd .i64 (j : Int) (1 : Int)) n2 vh13)))))
                    (IfB (!((c10 == (0 : Int)) == false)) (Yes h0 (.bool false) vh8)
                      (HCalls Try.prog fn_alloc_Alloc_Count #[.pointer (some ⟨h0.size + 1, 0, none⟩)] vh8 fun r10 vh14 =>
                        ∃ c17 : Int, r10 = .int .i64 c17 ∧
                        IfB (c17 != ((freeL zs).length : Int)) (Yes h0 (.bool false) vh14)
                        (∃ n2, n2 < m ∧ OnceI h0 s z sp L ((freeL zs).length : Int) (iAdd .i64 (j : Int) (1 : Int)) n2 vh14))) := by
  have hl := y.len
  have hcl := cnt_le zs
  obtain ⟨a, ba, b0, b1, r0, _⟩ := w.ix y.ext j (by omega)
  refine ⟨a, ba, b0, b1, _, r0, ?_⟩
  refine (Take_spec y.al (by omega) _).mono ?_
  rintro _ h8 (⟨hc, rfl, e8⟩ | ⟨hc, k, hlst, rfl, x8, o8⟩)
  · have y8 := y.grow e8
    have fin := Once_fin y8 hz hL hm hj (fun i hi => Nat.le_succ_of_le (hw i hi)) rfl
    obtain ⟨a', ba', b0', b1', r0', _⟩ := w.ix y8.ext j (by omega)
    refine ⟨_, _, rfl, IfB.dec (fun hpos => ⟨a', ba', b0', b1', _, r0', ?_⟩) (fun _ => .no rfl fin)⟩
    have hc' : ¬ (ps[j].1 == 2) = true ∧ (freeL zs).length ≤ sp := by
      rcases hc with hc | ⟨hc, hc2⟩
      · omega
      · exact ⟨by rw [hc]; simp, hc2⟩
    refine .no (by simpa using hc'.1) (.no ?_ (.no (by simp; omega) fin))
    simp; omega
  · have hk := hlst.lt
    have rest : ∀ {b : Bool}, IfB (decide ((k : Int) < (0 : Int))) (Yes h0 (.bool b) h8)
                          (IfB (decide ((k : Int) ≥ (z : Int))) (Yes h0 (.bool b) h8)
                            (∃ a3 : Addr, s.base = some a3 ∧ 0 ≤ (k : Int) ∧ (k : Int) < (s.len : Int) ∧
                              ∃ c12 : Bool, hcell h8 (a3.add (((k : Int)).toNat * 1)) = some (.bool c12) ∧
                              IfB c12 (Yes h0 (.bool b) h8)
                              (∃ a4 : Addr, s.base = some a4 ∧ 0 ≤ (k : Int) ∧ (k : Int) < (s.len : Int) ∧
                                StOk h8 (a4.add (((k : Int)).toNat * 1)) ∧
                                HCalls Try.prog fn_alloc_Alloc_Count #[.pointer (some ⟨h0.size + 1, 0, none⟩)] (hset h8 (a4.add (((k : Int)).toNat * 1)) (.bool true)) fun r7 vh10 =>
                                ∃ c13 : Int, r7 = .int .i64 c13 ∧
                                IfB (c13 != (iSub .i64 ((freeL zs).length : Int) (1 : Int))) (Yes h0 (.bool false) vh10)
                                (∃ n2, n2 < m ∧ OnceI h0 s z sp L (iSub .i64 ((freeL zs).length : Int) (1 : Int)) (iAdd .i64 (j : Int) (1 : Int)) n2 vh10)))) := by
      intro b
      refine IfB.dec (fun _ => by omega) (fun _ => IfB.dec (fun _ => by omega) (fun _ => ?_))
      refine ixT (y.own.only o8 (by omega)) k rfl hk (.no hlst.free ?_)
      obtain ⟨a9, ba, b0, b1, ok, y9⟩ := y.both hk x8 o8 rfl (fun _ y => y)
      refine ⟨a9, ba, b0, b1, ok, ?_⟩
      have hcnt := cnt_take hk hlst.free (wr zs k)
      refine Once_fin y9 hz hL hm hj (fun i hi => ?_) ?_
      · rw [wr_set hk]; split
        · exact Nat.le_succ_of_le (hw k (by omega))
        · exact Nat.le_succ_of_le (hw i hi)
      · rw [iSub64 (by omega)]; omega
    have e8 : Ext h0 h8 := o8.ext y.ext (Nat.le_refl _)
    obtain ⟨a', ba', b0', b1', r0', _⟩ := w.ix e8 j (by omega)
    refine ⟨_, _, rfl, IfB.dec (fun hpos => ⟨a', ba', b0', b1', _, r0', ?_⟩) (fun hno => by omega)⟩
    refine IfB.intro (fun h2 => .no rfl rest) (fun h2 => ?_)
    have h3 : sp < (freeL zs).length := by
      have := hc.2; rw [h2] at this; simp at this; omega
    exact .no (by simp; omega) (.yes (by simp; omega) rest)
theorem AllocOnce_spec {h : Hp} {l : Sl} {ps : List (Int × Int)} (w : InP h l ps) (z sp : Nat) : HCalls Try.prog fn_scarplaw10_AllocOnce #[.int .i64 (z : Int), .int .i64 (sp : Int), .slice l.base l.len l.cap] h (Yes h) := by
  apply scarplaw10_AllocOnce_vc
  unfold vcscarplaw10_AllocOnce
  have hlen := w.len
  refine IfB.dec (fun _ => aw10 (.refl _)) (fun h1 => IfB.dec (fun _ => aw10 (.refl _)) (fun h2 => IfB.dec (fun _ => aw10 (.refl _)) (fun h3 => IfB.dec (fun _ => aw10 (.refl _)) (fun h3' => IfB.dec (fun _ => aw10 (.refl _)) (fun h4 => ?_)))))
  refine (New_spec (zones := z) (spare := sp) (by omega) (by omega) (by omega) h).mono ?_
  rintro _ h5 ⟨rfl, x5, e5⟩
  refine ⟨_, _, rfl, .no rfl (.no rfl ?_)⟩
  refine New_row (by omega) x5 e5 fun s h6 y6 => ?_
  refine ⟨OnceI h s z sp ps.length, ps.length, ⟨0, _, rfl, rfl, y6, fun i _ => by rw [new_wr]; omega, by rw [cnt_all (fun i hi => new_tk (by simpa using hi))]; simp⟩, ?_⟩
  rintro _ _ _ m h7 ⟨j, zs, rfl, hm, y7, hwr, rfl⟩
  have hzl := y7.len
  refine IfB.dec (fun hlt => ?_) (fun hge => aw10 y7.ext)
  have hj : j < ps.length := by omega
  obtain ⟨a, ba, b0, b1, r0, r1⟩ := w.ix y7.ext j hj
  refine ⟨a, ba, b0, b1, _, r0, ?_⟩
  refine IfB.intro (fun _ => Once_take w y7 (by omega) (by omega) rfl hm hj hwr) (fun _ => IfB.intro (fun _ => Once_take w y7 (by omega) (by omega) rfl hm hj hwr) (fun _ => IfB.intro (fun _ => ?_) (fun _ => ?_)))
  · refine ⟨a, ba, b0, b1, _, r1, ?_⟩
    refine (Round_spec ps[j].2 (z : Int) (by omega) (by omega) h7).mono ?_
    rintro _ _ ⟨rfl, rfl⟩
    obtain ⟨k, hk, hk2⟩ : ∃ k : Nat, ps[j].2 % (z : Int) = k ∧ k < z :=
      ⟨(ps[j].2 % (z : Int)).toNat, by have := Int.emod_nonneg ps[j].2 (show (z : Int) ≠ 0 by omega); omega, by have := Int.emod_lt_of_pos ps[j].2 (show (0 : Int) < z by omega); have := Int.emod_nonneg ps[j].2 (show (z : Int) ≠ 0 by omega); omega⟩
    rw [hk]
    refine ⟨_, rfl, ?_⟩
    have hkz : k < zs.length := by omega
    obtain ⟨a2, ba2, b02, b12, t, rt, et⟩ := ixT y7.own k rfl hkz (K := fun c => c = tk zs k) rfl
    subst et
    have hblk : a2.block < _ := (y7.own.lt ba2).2
    have hlo := (y7.own.lt ba2).1
    obtain ⟨ob, hob⟩ : ∃ ob, (_ : Hp)[a2.block]? = some ob := ⟨_, Array.getElem?_eq_getElem hblk⟩
    refine ⟨onlyB a2.block ob, sub_only hob, a2, ba2, b02, b12, tk zs k, ?_, ?_⟩
    · rw [← rt]; exact hcell_eq (by rw [add_block, onlyB_at, hob])
    refine (Free_spec y7.al (k : Int) (fun q hq => by obtain rfl : k = q := (by omega); have := hwr k hk2; omega)).mono ?_
    rintro _ h9 (⟨hc, _⟩ | ⟨q, hq, hq2, hcase⟩)
    · omega
    obtain rfl : k = q := by omega
    rcases hcase with ⟨ht, rfl, rfl⟩ | ⟨ht, rfl, x9, o9⟩
    · refine ⟨_, rfl, sub_only hob, .no (by rw [ht]; rfl) ?_⟩
      refine ixT y7.own k rfl hkz (.no ht ?_)
      exact Once_fin y7 (by omega) (by omega) hm hj (fun i hi => Nat.le_succ_of_le (hwr i hi)) rfl
    · have hob9 : h9[a2.block]? = some ob := by rw [o9.block _ hblk (by omega), hob]
      refine ⟨_, rfl, sub_only hob9, .no (by rw [ht]; rfl) ?_⟩
      refine ixT (y7.own.only o9 (by omega)) k rfl hkz (.yes ht ?_)
      obtain ⟨a9, ba9, b09, b19, ok, y9⟩ := y7.both hkz x9 o9 rfl (fun _ y => y)
      refine ⟨a9, ba9, b09, b19, ok, ?_⟩
      have hcnt := cnt_free hkz ht (wr zs k + 1)
      have hcl := cnt_le zs
      refine Once_fin y9 (by omega) (by omega) hm hj (fun i hi => ?_) ?_
      · rw [wr_set hkz]; split
        · have := hwr k hk2; simp only; omega
        · exact Nat.le_succ_of_le (hwr i hi)
      · rw [iAdd64 (by omega)]; omega
  · exact Once_fin y7 (by omega) (by omega) hm hj (fun i hi => Nat.le_succ_of_le (hwr i hi)) rfl
theorem AllocOnce_law {h : Hp} (zones : Int) (_ : (Lit.int .i64 zones).wf = true) (spare : Int) (_ : (Lit.int .i64 spare).wf = true) (s : Sl) (l : List (Int × Int)) (w : InP h s l) :
    HCalls Try.prog fn_scarplaw10_AllocOnce #[.int .i64 zones, .int .i64 spare, .slice s.base s.len s.cap] h (Yes h) := by
  by_cases h1 : zones < 0
  · apply scarplaw10_AllocOnce_vc
    unfold vcscarplaw10_AllocOnce
    exact .yes (by simp; omega) (aw10 (.refl _))
  by_cases h2 : spare < 0
  · apply scarplaw10_AllocOnce_vc
    unfold vcscarplaw10_AllocOnce
    exact IfB.dec (fun _ => aw10 (.refl _)) (fun _ => IfB.dec (fun _ => aw10 (.refl _)) (fun _ => .yes (by simp; omega) (aw10 (.refl _))))
  obtain ⟨z, rfl⟩ : ∃ z : Nat, zones = z := ⟨zones.toNat, by omega⟩
  obtain ⟨sp, rfl⟩ : ∃ sp : Nat, spare = sp := ⟨spare.toNat, by omega⟩
  exact AllocOnce_spec w z sp

end Go.Proofs.Ytmnkafplmbngnaa
