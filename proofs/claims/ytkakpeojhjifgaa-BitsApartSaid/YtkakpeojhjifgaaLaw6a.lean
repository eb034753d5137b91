/-
  awake and BitsShort (chapter 6): they answer true and leave what was there.
-/
import Derived.Test.YtkakpeojhjifgaaBits
import Derived.Test.YtkakpeojhjifgaaBridge
namespace Go.Proofs.Ytkakpeojhjifgaa
set_option linter.unusedVariables false
set_option linter.unusedSimpArgs false

theorem varint300 : varintL 300 = [172, 2] := by
  rw [varintL_ge (by omega), varintL_lt (by omega)]; decide
theorem leB41 : leB 4 1 = [1, 0, 0, 0] := by decide

theorem awake6_spec (h : Hp) : HCalls Try.prog fn_scarplaw6_awake #[] h (Yes h) := by
  apply scarplaw6_awake_vc
  unfold vcscarplaw6_awake
  refine (Varint_spec 300 (by omega) h).mono ?_
  rintro _ h1 ⟨s, rfl, o1, l1, e1⟩
  refine ⟨_, rfl, ?_⟩
  refine (Put32_spec 1 (by omega) h1).mono ?_
  rintro _ h2 ⟨t, rfl, o2, l2, e2⟩
  rw [varint300] at o1 l1
  rw [leB41] at o2 l2
  have r1 := (o1.ext e2).rd
  have r2 := o2.rd
  refine ⟨_, rfl, .yes (by rw [l1]; rfl) ?_⟩
  refine ixB r1 l1.symm 0 rfl (by simp) (.yes rfl ?_)
  refine ixB r1 l1.symm 1 rfl (by simp) (.yes rfl (.yes (by rw [l2]; rfl) ?_))
  refine ixB r2 l2.symm 0 rfl (by simp) ?_
  exact ⟨rfl, e1.trans e2⟩

theorem BitsShort_spec (v : Nat) (hv : v < 2 ^ 64) (h : Hp) : HCalls Try.prog fn_scarplaw6_BitsShort #[.int .u64 (v : Int)] h (Yes h) := by
  apply scarplaw6_BitsShort_vc
  unfold vcscarplaw6_BitsShort
  have e7 : ∀ x : Nat, iShr .u64 (x : Int) (7 : Int) = ((x / 128 : Nat) : Int) := fun x => iShr_nat (k := .u64) (b := 7) (by simp [IntKind.bits])
  rw [e7]
  have h10 := vlen_le10 hv
  refine ⟨by omega, fun n x m h' => h' = h ∧ ∃ k : Nat, n = k ∧ x = (m : Int) ∧ k + (if m = 0 then 0 else vlen m) = vlen v ∧ 1 ≤ k, v / 128, ⟨rfl, 1, rfl, rfl, ?_, by omega⟩, ?_⟩
  · by_cases hlt : v < 128
    · rw [vlen_lt hlt, if_pos (by omega)]
    · rw [vlen_ge hlt, if_neg (by omega)]; omega
  rintro _ _ _ x h' ⟨rfl, k, rfl, rfl, hk, hk1⟩
  refine IfB.dec (fun hgt => ?_) (fun hle => ?_)
  · have hx : x ≠ 0 := by omega
    rw [if_neg hx] at hk
    refine ⟨by omega, x / 128, by omega, rfl, k + 1, ?_, e7 x, ?_, by omega⟩
    · rw [iAdd64 (by omega)]; push_cast; rfl
    · by_cases hlt : x < 128
      · rw [vlen_lt hlt] at hk; rw [if_pos (by omega)]; omega
      · rw [vlen_ge hlt] at hk; rw [if_neg (by omega)]; omega
  · have hx : x = 0 := by have : ¬ (x : Int) > 0 := hle; omega
    subst hx
    simp only [if_true, Nat.add_zero] at hk
    subst hk
    refine (Varint_spec v hv h').mono ?_
    rintro _ h1 ⟨s, rfl, o1, l1, e1⟩
    refine ⟨_, rfl, ?_⟩
    have hl : s.len = vlen v := l1
    refine ⟨fun i m h2 => h2 = h1 ∧ ∃ j : Nat, i = j ∧ j + m = 11, 11, ⟨rfl, 0, rfl, rfl⟩, ?_⟩
    rintro _ _ m h2 ⟨rfl, j, rfl, hj⟩
    have eA : iAdd .i64 (j : Int) (1 : Int) = ((j + 1 : Nat) : Int) := by rw [iAdd64 (by omega)]; push_cast; rfl
    rw [eA]
    refine IfB.dec (fun hlt => ?_) (fun hge => ?_)
    · have hj1 : j + 1 < (varintL v).length := by omega
      refine ixB o1.rd l1.symm j rfl (by omega) ?_
      have hb := (varintL_get v j (by omega)).1 hj1
      refine IfB.dec (fun h0 => by omega) (fun _ => ?_)
      exact ⟨m - 1, by omega, rfl, j + 1, rfl, by omega⟩
    · refine IfB.yes (by rw [hl]; simp) ?_
      have eS : iSub .i64 (vlen v : Int) (1 : Int) = ((vlen v - 1 : Nat) : Int) := by rw [iSub64 (by omega)]; omega
      rw [eS]
      have hlast : vlen v - 1 < (varintL v).length := by show vlen v - 1 < vlen v; omega
      refine ixB o1.rd l1.symm (vlen v - 1) rfl hlast ?_
      have hb := (varintL_get v (vlen v - 1) hlast).2 (by show vlen v - 1 + 1 = vlen v; omega)
      refine IfB.dec (fun _ => ?_) (fun h0 => by omega)
      refine (awake6_spec h2).mono ?_
      rintro _ h3 ⟨rfl, e3⟩
      exact ⟨true, rfl, rfl, e1.trans e3⟩

theorem BitsShort_law (a : Int) (wf : (Lit.int .u64 a).wf = true) {h : Hp} : HCalls Try.prog fn_scarplaw6_BitsShort #[.int .u64 a] h (Yes h) := by
  obtain ⟨n, rfl, hn⟩ := in_u64 wf
  exact BitsShort_spec n hn h

end Go.Proofs.Ytkakpeojhjifgaa
