/-
  The laws of chapter 19: awake, SlotPlays.
-/
import Derived.Test.YtfelkonmhfejdaaSlot7
import Derived.Test.YtfelkonmhfejdaaHStr
import Derived.Test.YtfelkonmhfejdaaStr
import Derived.Test.YtfelkonmhfejdaaBridge
namespace Go.Proofs.Ytfelkonmhfejdaa
set_option linter.unusedVariables false
set_option linter.unusedSimpArgs false

/-- the slots of the laws: the least device. -/
abbrev slS (f0 f1 f2 inn count : Nat) : SlV := ⟨f0, f1, f2, 96, inn, count, false⟩
theorem slS_ok {f0 f1 f2 inn count : Nat} (h01 : f0 < f1) (h12 : f1 < f2) (h2 : f2 ≤ 8) (hi : inn ≤ 1) (hc : count < 1000000) : (slS f0 f1 f2 inn count).Ok :=
  ⟨by show f0 ≤ f1; omega, by show f1 ≤ f2; omega, by show f2 ≤ 64; omega, ⟨by show 1 ≤ 96; omega, by show 96 ≤ 192; omega⟩, hi, by show count < _; omega⟩
theorem new8 : (Dv.new 8 96).n = 8 ∧ (Dv.new 8 96).size = 96 := ⟨rfl, rfl⟩
theorem new_inv {f0 f1 f2 : Nat} (h01 : f0 ≤ f1) (h12 : f1 ≤ f2) : SlInv (Dv.new 8 96) f0 f1 f2 1 [] 0 := SlInv.new (fun j _ _ => by rw [Dv.new_z]) h01 h12
/-- a slice of bytes in a block of one's own is not the device's. -/
theorem tbOf {lo : Nat} {F : Nat → Nat} {h h1 : Hp} {db sb : Nat} {d : Dv} {s : Sl} {l : List Value} (x : DevAt lo F h db d) (hsb : sb < h.size) (o : Own h.size 1 h1 s l) : ∀ a, s.base = some a → F a.block = 0 ∧ a.block < h1.size ∧ a.block ≠ sb := fun a ha => by
  have := o.lt ha
  exact ⟨x.free this.1, this.2, by omega⟩
theorem awake19_spec (h : Hp) : HCalls Try.prog fn_scarplaw19_awake #[] h (Yes h) := by
  apply scarplaw19_awake_vc
  unfold vcscarplaw19_awake
  refine (dev19_spec h).mono ?_
  rintro _ h1 ⟨_, _, rfl, F, db, rfl, rfl, x, e1⟩
  refine ⟨_, _, rfl, .no rfl ?_⟩
  refine openL x e1 (new_live 8 96) (f0 := 0) (f1 := 1) (f2 := 2) (by omega) (by omega) (by rw [new8.1]; omega) (new_inv (by omega) (by omega)) fun F2 h2 sb ts d2 x2 sm2 g2 sl2 e02 _ _ hsb hts => ?_
  refine .no rfl (.no rfl ?_)
  have s02 := e02.size
  have hsb2 := sl2.row.lt
  have s1 := e1.size
  have inv2 := sm2.inv (new_inv (f0 := 0) (f1 := 1) (f2 := 2) (by omega) (by omega)) (by omega) (by omega)
  have hd2 : d2.size = 96 := sm2.ok.size
  have hn2 : d2.n = 8 := sm2.ok.n
  have ok : ∀ inn count, inn ≤ 1 → count < 1000000 → (slS 0 1 2 inn count).Ok := fun inn count hi hc => slS_ok (by omega) (by omega) (by omega) hi hc
  have fit : ∀ inn count (t : List UInt8), t.length ≤ 100 → ¬ (slS 0 1 2 inn count).room < (t.length : Int) := fun inn count t ht => by
    have : (slS 0 1 2 inn count).room = 3760 := rfl
    rw [this]; omega
  intro h3
  refine ⟨_, rfl, ?_⟩
  intro h4
  obtain ⟨e4, s4, r4⟩ : Ext h2 h4 ∧ h4.size = h2.size + 1 ∧ RdC h4 (some (nw h2)) ([97].map bv) := strFacts h2 [97] ty_uint8
  refine saveL (S := slS 0 1 2 1 0) (t := [97]) (tl := Sl.mk (some (nw h2)) 1 1) (x2.ext e4) (e02.trans e4) sm2.ok.live (sl2.eq e4.size (e4.block _ hsb2) fun a ha => e4.block _ (sl2.tb a ha).2.1) (by omega) (ok _ _ (by omega) (by omega)) hd2.symm rfl (by rw [hn2]; show 2 ≤ 8; omega) ⟨rfl, Nat.le_refl _, r4⟩ (fun a ha => ?_) (by simp) (fit _ _ _ (by simp)) inv2 fun F5 h5 ts5 d5 x5 ok5 g5 inv5 ho5 sl5 e05 s5 gF5 y5 b5 => ?_
  · cases ha; exact ⟨x2.free (Nat.le_refl _), by show h2.size < _; omega, by show h2.size ≠ sb; omega⟩
  refine .no rfl ?_
  intro h6
  refine ⟨_, rfl, ?_⟩
  intro h7
  obtain ⟨e7, s7, r7⟩ : Ext h5 h7 ∧ h7.size = h5.size + 1 ∧ RdC h7 (some (nw h5)) ([98].map bv) := strFacts h5 [98] ty_uint8
  have hsb5 := sl5.row.lt
  refine saveL (S := slS 0 1 2 0 1) (t := [98]) (tl := Sl.mk (some (nw h5)) 1 1) (x5.ext e7) (e05.trans e7) ok5.live (sl5.eq e7.size (e7.block _ hsb5) fun a ha => e7.block _ (sl5.tb a ha).2.1) (by omega) (ok _ _ (by omega) (by omega)) (by rw [ok5.size, hd2]) rfl (by rw [ok5.n, hn2]; show 2 ≤ 8; omega) ⟨rfl, Nat.le_refl _, r7⟩ (fun a ha => ?_) (by simp) (fit _ _ _ (by simp)) inv5 fun F8 h8 ts8 d8 x8 ok8 g8 inv8 ho8 sl8 e08 s8 gF8 y8 b8 => ?_
  · cases ha; exact ⟨x5.free (Nat.le_refl _), by show h5.size < _; omega, by show h5.size ≠ sb; omega⟩
  refine .no rfl ?_
  refine (Crash_spec (s := Sl.nil) (t := Sl.nil) (picks := []) (torn := []) x8 rfl (RdC.nil _ _) rfl (RdC.nil _ _)).mono ?_
  rintro _ h9 ⟨e9, F9, cb, rfl, x9⟩
  obtain ⟨sm9, g9⟩ := crash_same ok8.live x8.1 g8 [] []
  refine ⟨_, rfl, ?_⟩
  have hn8 : d8.n = 8 := by rw [ok8.n, ok5.n, hn2]
  refine openL (x9.low e08.size) (e08.trans e9) sm9.ok.live (f0 := 0) (f1 := 1) (f2 := 2) (by omega) (by omega) (by rw [sm9.ok.n, hn8]; omega) (sm9.inv inv8 (by show 0 ≤ 1; omega) (by show 1 ≤ 2; omega)) fun F10 h10 sb10 ts10 d10 x10 sm10 g10 sl10 e010 gF10 c10 hsb10 hts10 => ?_
  refine .no rfl (.no rfl ?_)
  refine (Load_spec sl10.row sl10.text (by simp)).mono ?_
  rintro _ h11 ⟨u, rfl, ou, lu, e11⟩
  refine ⟨u, _, rfl, [98], ou.toRd.lenB, ou.rd, .yes (beq_iff_eq.2 rfl) (.yes rfl ?_)⟩
  have sl9 := sl8.eq e9.size (e9.block _ sl8.row.lt) fun a ha => e9.block _ (sl8.tb a ha).2.1
  have row11 : Row h11 sb (slC db (slS 0 1 2 1 2) ts8) := (sl9.row.chg c10 (x9.F0 sl8.row.lt)).ext e11
  refine (Room_spec row11 (ok _ _ (by omega) (by omega))).mono ?_
  rintro _ h12 ⟨rfl, hh⟩
  obtain rfl := hh.symm
  exact ⟨_, rfl, rfl, e010.trans e11⟩
theorem aw19 {h h1 : Hp} (e : Ext h h1) : HCalls Try.prog fn_scarplaw19_awake #[] h1 fun r vh => ∃ c1 : Bool, r = .bool c1 ∧ Yes h (.bool c1) vh :=
  (awake19_spec h1).mono fun _ _ ⟨h1, h2⟩ => ⟨true, h1, rfl, e.trans h2⟩

end Go.Proofs.Ytfelkonmhfejdaa
