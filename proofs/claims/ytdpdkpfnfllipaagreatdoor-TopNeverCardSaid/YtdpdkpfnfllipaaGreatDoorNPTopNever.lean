/-
  TopNever: whatever steps came in, the law answers true, and all that came in reads as it did. No condition but the row's own: the listed variables stand as the program's text lays them (the card ties them).
-/
import Derived.Test.YtdpdkpfnfllipaaGreatDoorFTopNever
import Derived.Test.YtdpdkpfnfllipaaGreatDoorTie
import Derived.Test.YtdpdkpfnfllipaaGreatDoorCards
import Derived.SevenTiedAt
import Derived.Test.YtdpdkpfnfllipaaGreatDoorN5
import Derived.Test.YtdpdkpfnfllipaaGreatDoorN22
import Derived.Test.YtdpdkpfnfllipaaGreatDoorN23
namespace Go.Proofs.YtdpdkpfnfllipaaGreatDoor.topNever
set_option linter.unusedVariables false
set_option linter.unusedSimpArgs false
open Go.ChangeShapes Go.WideShapes Go.ChangeAt Go.RowKit
set_option linter.unusedVariables false

theorem own : ownKnob Tryz.prog.godebug = none := by kernel_rfl
theorem laidOut : laidOutB Tryz.prog = true := by kernel_rfl

set_option maxRecDepth 100000 in
theorem lifted (os : Os) (started : os.Started) (H : Type) (enc : TypeId × Value → H) :
    ReturnsInHanded {} Tryz.checked os 3 .any (fun w args => (Rows.topNeverSpec.pre enc Tryz.prog Tryz.f3 Rows.topNeverRow.domain false w args ∧ laidMetH Tryz.prog Rows.topNeverRow.laid w) ∧ sizedMet enc Tryz.prog Tryz.f3 (OpenSpec.ofChange Rows.topNeverSpec) false w args)
      (Rows.topNeverSpec.post enc Tryz.prog Tryz.f3 false true false false) := by
  refine handed_and_shaped (C := Tryz.checked) (X := fun w _ => laidMetH Tryz.prog Rows.topNeverRow.laid w) (fun _ _ _ hh h => h.of_heap hh) own started (by kernel_rfl) Tryz.func3
    (ChangeSpec.witness_shaped (enc := enc) (C := Tryz.checked) (os := os) (X := fun w _ => laidMetH Tryz.prog Rows.topNeverRow.laid w) false (World.laidAll Tryz.prog os Rows.topEndsRow.laid) #[.slice none 0 0] 8 (World.laidAll_os _ _ _)
      (witShaped os) (by kernel_rfl) (by kernel_rfl) (by kernel_rfl) (wit os)) ?_
  intro W base args ds gs before hval0 hW hL hsh
  have hval : ∀ (j : Nat) t v, Tryz.f3.params[j]? = some t → args[j]? = some v → Value.okWide Tryz.prog W .any base t v := hval0
  have hW' := hW
  obtain ⟨p, q, hA0, hV, rfl, hfz, hnd⟩ := hW
  have hA : DataW.TrodAll enc Tryz.prog W 0 (fun _ => true) true Tryz.f3.params.toList args.toList ds p := hA0
  rw [Tryz.params3] at hA hval
  obtain ⟨v0, vs0, d0, ds0, p0, q0, hargs, rfl, rfl, h0, r0⟩ := trodAll_cons hA
  obtain ⟨rfl, rfl, rfl⟩ := trodAll_nil r0
  obtain rfl : args = #[v0] := by cases args; simp_all
  obtain ⟨rfl, rfl⟩ := trodVars_none hV
  have k0 := h0
  have lt0 : ∀ x ∈ p0, x.block < W.heap.size := by obtain ⟨m, hm⟩ := k0; exact DataW.trod_lt m _ _ _ hm
  obtain ⟨s, T, rfl, hs, hT⟩ := in_steps (hval 0 22 v0 rfl rfl) h0
  clear hA0 hval0
  have v := libV_of (by kernel_rfl) (by simp [Rows.topNeverRow]) hL hsh
  refine (toBelow (TopNever_law LibV.ext (awake_spec LibV.ext fun _ => Play_spec) v hs hT)).mono fun e W' ⟨he, bel⟩ => ?_
  subst he
  exact ⟨_, rfl, _, _, _, [], _, [], hW', trodAll_mk1 (shut_bool Tryz.underlying4 _), (trodAll_cons_mk (Below.trod laidOut (by kernel_rfl) (of_decide_eq_true (by kernel_rfl)) k0 bel lt0) trodAll_mk0), rfl, bel.frame _, fun h => by cases h⟩

theorem over : Rows.topNeverRow.holds Tryz.pinned (OpenSpec.ofChange Rows.topNeverSpec) :=
  OpenClaim.holds_of_wide 3 Tryz.f3 rfl rfl rfl rfl rfl rfl rfl ⟨rfl, rfl, rfl, rfl, rfl⟩ rfl rfl rfl rfl rfl funcIs Tryz.func3 facts
    (of_decide_eq_true (by kernel_rfl)) (by unfold Func.isWrapper; first | (rw [if_pos (by decide +kernel)]; kernel_rfl) | (rw [if_neg (by decide +kernel)]; exact ⟨rfl, rfl⟩))
    (fun os started H enc _ => lifted os started H enc)

theorem proved : Rows.TopNeverCardSaid :=
  Claim7.holds_tied_plain_at .later [] [.data, .data, .data, .data, .sentinel, .sentinel, .pinned] true (true, "ad9e0eb179ba3f7773ab42ed2a21cfb5e9c5f891f61f948dbb263995f6833716") true
    over (fun _ h => by cases h) wfText (fun _ h => by cases h) topNever_row_tie rfl ⟨rfl, rfl⟩ mainText rfl
    (fun f fn hf hfn => by
      obtain rfl : f = 3 := Option.some.inj (funcIs.symm.trans hf) |>.symm
      obtain rfl : fn = Tryz.f3 := (Option.some.inj (Tryz.func3.symm.trans hfn)).symm
      exact ⟨looksIs, fun j t ht => by
        rw [Tryz.params3] at ht
        have hm : t ∈ [22] := by simpa using Array.mem_of_getElem? ht
        exact (show Tryz.pinned.checked.prog.wantsStandIn t = false by simpa using List.all_eq_true.1 standIns t hm)⟩)
    goesIs
#print axioms proved
end Go.Proofs.YtdpdkpfnfllipaaGreatDoor.topNever
